/- How many runs, how long runs, study and copies take: the package and the reference answer alike. -/
import Derived.Test.YtblefohjnmmpmaaRecH
import Derived.Test.YtblefohjnmmpmaaRecW
namespace Go.Proofs.Ytblefohjnmmpmaa
open Go.RowKit
namespace Rec
set_option maxRecDepth 100000 in
set_option maxHeartbeats 4000000 in
theorem needs_any (b : BlueIn) (x y : Int) (w : World) (hb : Came w b) :
    Calls Try.prog 8 #[.agg b.val, .int .i64 x, .int .i64 y] w fun e w' => NeedsPost w w' (needsV b x y) e := by
  obtain ⟨i0, hi, hz0, hz1, hz2⟩ := info_parts info30
  have HB := Lib.hid hb
  have HN : Hid (∀ V : List Stk × Int, V = ([], 1) ∨ V = ([], 5) → ∀ W : World, Below w.heap.size w W → ∀ e, e = .returned (.tuple #[.slice none 0 0, .int .i64 V.2]) → NeedsPost w W V e) := by
    rintro V (rfl | rfl) W hW e rfl
    · exact ⟨none, 0, rfl, stks_nil W, hW⟩
    · exact ⟨none, 0, rfl, stks_nil W, hW⟩
  have HS : Hid (needsV b x y = if ok2 b x 0 10 y 1 1000 then (if ndsOk b.needs x y b.needs.length then (nds b.needs x y b.needs.length, 0) else ([], 5)) else ([], 1)) := rfl
  have CM : Hid (∀ (W : World) (t : TypeId) (g : Nat), Below w.heap.size w W → g = W.heap.size → Calls Try.prog 24 #[.agg #[.int .i64 b.makes, .int .i64 b.per, .int .i64 b.time, .slice b.addr b.needs.length b.cap, .int .i64 b.copy, .int .i64 b.study, .int .i64 b.most], .slice (some ⟨g, 0, none⟩) 2 2] (W.alloc (.cells #[.int .i64 x, .int .i64 0, .int .i64 10, .int .i64 y, .int .i64 1, .int .i64 1000] t)) fun e w' => e = .returned (.bool (ok2 b x 0 10 y 1 1000)) ∧ Below W.heap.size W w') := fun W t g hW hg => may_two b x 0 10 y 1 1000 W (HB.out.below hW) t g hg
  have HY : Hid (ok2 b x 0 10 y 1 1000 = true → _) := fun h => ok2_yes h
  generalize ok2 b x 0 10 y 1 1000 = M at *
  unfold BlueIn.val
  clear hb
  have hbw := Lib.hid ((Below.refl w.heap.size w).alloc (Nat.le_refl _) (.cells #[.int .i64 b.makes, .int .i64 b.per, .int .i64 b.time, .slice b.addr b.needs.length b.cap, .int .i64 b.copy, .int .i64 b.study, .int .i64 b.most] 24))
  cases M
  · have HV : Hid (needsV b x y = ([], 1)) := HS.out
    generalize needsV b x y = V at *
    go_enter Try.func8, Try.ntmps8
    go_wp2_with (go_at_call 24; ((with_reducible refine (CM.out _ _ _ hbw.out (by simp)).mono ?_); rintro e w1 ⟨rfl, hb1⟩; have hb1' := hbw.out.trans (hb1.mono (by simp));))
    go_ret2
    exact HN.out V (.inl HV.out) _ (hbw.out.trans (hb1.mono (by simp))) _ (by rw [HV.out]; rfl)
  · have HV : Hid (needsV b x y = (if ndsOk b.needs x y b.needs.length then (nds b.needs x y b.needs.length, 0) else ([], 5))) := HS.out
    generalize needsV b x y = V at *
    obtain ⟨hK, ⟨hx1, hx2⟩, hy1, hy2⟩ := HY.out rfl
    have hF := (bchk_ok b 32 hK).2.2.2.2.2.2.2
    have hP := mul_bd (show 0 ≤ y by omega) hy2 (show 0 ≤ 100 - x by omega) (show 100 - x ≤ 100 by omega)
    have q0 : wrap64 (100 - x) = 100 - x := by unfold wrap64; omega
    have HQ : Hid (wrap64 (y * wrap64 (100 - x)) = y * (100 - x)) := by
      show wrap64 (y * wrap64 (100 - x)) = y * (100 - x)
      rw [q0]
      generalize y * (100 - x) = P at *; unfold wrap64; omega
    have CS : Hid (∀ k, k < b.needs.length → ∀ W : World, Calls Try.prog 25 #[.int .i64 (b.needs.getD k (0, 0)).2, .int .i64 (wrap64 (y * wrap64 (100 - x))), .int .i64 100, .bool true] W fun e w' => e = .returned (.tuple #[.int .i64 (upI ((b.needs.getD k (0, 0)).2 * (y * (100 - x))) 100), .int .i64 0]) ∧ Below W.heap.size W w') := fun k hk W => by
      rw [HQ.out]
      have := (hF k hk).2
      have hm := mul_bd (show 0 ≤ (b.needs.getD k (0, 0)).2 by omega) this.2 hP.1 hP.2
      refine scale_big _ _ 100 (by omega) (by omega) hP.1 ?_ (by omega) (by omega) ?_ W
      · generalize y * (100 - x) = P at *; omega
      · unfold upI; generalize (b.needs.getD k (0, 0)).2 * (y * (100 - x)) = P at *; omega
    have HL : Hid (b.needs.length ≤ 12) := HB.out.1
    clear hx1 hx2 hy1 hy2 hP q0 hK hF
    go_enter Try.func8, Try.ntmps8
    go_wp2_with (go_at_call 24; ((with_reducible refine (CM.out _ _ _ hbw.out (by simp)).mono ?_); rintro e w1 ⟨rfl, hb1⟩; have hb1' := hbw.out.trans (hb1.mono (by simp)); have c3 := box_cell hb1 3; simp only [List.getElem?_toArray, List.getElem?_cons_zero, List.getElem?_cons_succ] at c3))
    have HST := Lib.hid (HB.out.2.1.below hb1')
    have HBX := Lib.hid (box_lt hb1)
    clear HB CM hbw
    go_loopw [8, 24] (fun o i wr => ∃ k : Nat, k ≤ b.needs.length ∧ i = .int .i64 k ∧ wr.ownsRow w1.heap.size 30 2 o k (stkVals (nds b.needs x y k)) ∧ Hid (ndsOk b.needs x y k = true) ∧ Below w1.heap.size w1 wr) (fun _ i _ => b.needs.length - (intOf i).toNat)
    case atStart => exact ⟨0, by omega, rfl, ⟨rfl, .inl ⟨rfl, rfl⟩⟩, rfl, Below.refl _ _⟩
    case round =>
      obtain ⟨k, hk, rfl, hown, HO, hbr⟩ := hrel
      by_cases hlt : k < b.needs.length
      · obtain ⟨g, off, ha, hgl, hc, hd⟩ := (Stks.below HST.out hbr) k hlt
        rw [ha]
        have hlt1 : (k : Int) < (b.needs.length : Int) := by omega
        have CS1 := Lib.hid (CS.out k hlt)
        have HK : Hid (nds b.needs x y (k + 1) = nds b.needs x y k ++ [((b.needs.getD k (0, 0)).1, max (upI ((b.needs.getD k (0, 0)).2 * (y * (100 - x))) 100) y)]) := rfl
        have HO1 : Hid (max (upI ((b.needs.getD k (0, 0)).2 * (y * (100 - x))) 100) y ≤ 1125899906842624 → ndsOk b.needs x y (k + 1) = true) := fun h => by
          rw [ndsOk, HO.out]
          exact decide_eq_true h
        have HO2 : Hid (¬ max (upI ((b.needs.getD k (0, 0)).2 * (y * (100 - x))) 100) y ≤ 1125899906842624 → ndsOk b.needs x y b.needs.length = false) := fun h => ndsOk_no _ _ _ k _ h hlt
        generalize upI ((b.needs.getD k (0, 0)).2 * (y * (100 - x))) 100 = U at *
        generalize (b.needs.getD k (0, 0)).1 = T at *
        generalize (b.needs.getD k (0, 0)).2 = Q at *
        generalize b.addr = A at *
        subst ha
        have hx3 : Hid (Below w1.heap.size w1 wr) := hbr
        have hl12 : b.needs.length ≤ 12 := HL.out
        by_cases g1 : max U y ≤ 1125899906842624
        · have d1 : decide (1125899906842624 < max U y) = false := decide_eq_false (by omega)
          have HK1 := Lib.hid (HO1.out g1)
          clear g1
          go_wp2_with (first
            | (go_at_call 25; ((with_reducible refine (CS1.out _).mono ?_); rintro e w2 ⟨rfl, hb2⟩; have r0 := box_cell hb2 0; simp only [List.getElem?_toArray, List.getElem?_cons_zero] at r0; have hown2 := Own.own_below (hown.alloc _) hb2; have hb2' := below2 (below_al hx3.out _) hb2))
            | (at_builtin; refine list_pair rfl (.tmp 47) (.tmp 52) 22 rfl w1.heap.size 30 i0 _ 16 Try.underlying22 hi hz0 hz1 hz2 rfl _ k _ rfl _ _ _ _ rfl (hown2.alloc _) (pair_new _ _ _ _).1 (pair_new _ _ _ _).2 rfl rfl ?h1 ?h2 ?h3 ?_; (case h1 => have := HL.out; unfold maxLen; omega); (case h2 => have := HL.out; omega); (case h3 => have := hb2'.size; simp; omega); intro v' w3 hown3 hgrow3))
          go_roundw
          case rel => exact ⟨k + 1, by omega, by go_num, by rw [HK.out, stkVals_append]; exact hown3, HK1, (below_al hb2' _).grown hgrow3 (below_al hb2' _).size (Own.own_block hown2 (Nat.le_refl _))⟩
          case measure => simp [intOf]; omega
        · have d1 : decide (1125899906842624 < max U y) = true := decide_eq_true (by omega)
          have HK1 := Lib.hid (HO2.out g1)
          clear g1
          go_wp2_with (go_at_call 25; ((with_reducible refine (CS1.out _).mono ?_); rintro e w2 ⟨rfl, hb2⟩; have hb2' := below2 (below_al hx3.out _) hb2))
          go_ret2
          have hV2 : V = ([], 5) := by rw [HV.out, HK1.out]; rfl
          exact HN.out V (.inr hV2) _ (below2 hb1' hb2') _ (by rw [hV2]; rfl)
      · have hke : k = b.needs.length := by omega
        subst hke
        have hV2 : Hid (V = (nds b.needs x y b.needs.length, 0)) := by show V = _; rw [HV.out, HO.out]; rfl
        have hown1 : Hid (wr.ownsRow w1.heap.size 30 2 u8 (nds b.needs x y b.needs.length).length (stkVals (nds b.needs x y b.needs.length))) := by show World.ownsRow _ _ _ _ _ _ _; rw [nds_length]; exact hown
        obtain ⟨a2, c2, rfl, hst⟩ := stks_of_own hown1.out
        rw [nds_length] at *
        have hbb := Lib.hid (below2 hb1' hbr)
        go_wp2
        go_ret2
        exact ⟨a2, c2, by rw [hV2.out]; simp only [nds_length]; rfl, by rw [hV2.out]; exact hst, hbb.out⟩
end Rec
end Go.Proofs.Ytblefohjnmmpmaa
