/- How many runs, how long runs, study and copies take: the package and the reference answer alike. -/
import Derived.Test.YtblefohjnmmpmaaRecH2
namespace Go.Proofs.Ytblefohjnmmpmaa
open Go.RowKit
namespace Rec
theorem hundreds (n d : Int) (_hd : 0 ≤ d) (_hn : 0 ≤ n) : n / 100 * d + upI (n % 100 * d) 100 = upI (n * d) 100 := by
  unfold upI
  have e := Int.mul_ediv_add_emod n 100
  have : n * d + 100 - 1 = (n % 100 * d + 100 - 1) + 100 * (n / 100 * d) := by
    conv => lhs; rw [← e]
    rw [Int.add_mul, Int.mul_assoc]
    omega
  rw [this, Int.add_mul_ediv_left _ _ (by decide)]
  omega
set_option maxRecDepth 100000 in
set_option maxHeartbeats 4000000 in
theorem refNeeds_any (b : BlueIn) (x y : Int) (w : World) (hb : Came w b) :
    Calls Try.prog 9 #[.agg b.val, .int .i64 x, .int .i64 y] w fun e w' => NeedsPost w w' (needsV b x y) e := by
  obtain ⟨i0, hi, hz0, hz1, hz2⟩ := info_parts info30
  have HB := Lib.hid hb
  have HN : Hid (∀ V : List Stk × Int, V = ([], 1) ∨ V = ([], 5) → ∀ W : World, Below w.heap.size w W → ∀ e, e = .returned (.tuple #[.slice none 0 0, .int .i64 V.2]) → NeedsPost w W V e) := by
    rintro V (rfl | rfl) W hW e rfl
    · exact ⟨none, 0, rfl, stks_nil W, hW⟩
    · exact ⟨none, 0, rfl, stks_nil W, hW⟩
  have HS : Hid (needsV b x y = if (decide (bchk b 32 = 0) && (inB (x, 0, 10) && inB (y, 1, 1000))) then (if ndsOk b.needs x y b.needs.length then (nds b.needs x y b.needs.length, 0) else ([], 5)) else ([], 1)) := rfl
  have CK : Hid (∀ (W : World), Below w.heap.size w W → Calls Try.prog 16 #[.agg #[.int .i64 b.makes, .int .i64 b.per, .int .i64 b.time, .slice b.addr b.needs.length b.cap, .int .i64 b.copy, .int .i64 b.study, .int .i64 b.most], .int .i64 32] W fun e w' => e = .returned (.int .i64 (bchk b 32)) ∧ Below W.heap.size W w') := fun W hW => refCheck12_any b 32 W (HB.out.below hW)
  have I0 : Hid (∀ W : World, Calls Try.prog 26 #[.int .i64 x, .int .i64 0, .int .i64 10] W fun e w' => e = .returned (.bool (inB (x, 0, 10))) ∧ W = w') := in_any _ _ _
  have J0 : Hid (inB (x, 0, 10) = true → _) := fun h => inB_ok h
  have I1 : Hid (∀ W : World, Calls Try.prog 26 #[.int .i64 y, .int .i64 1, .int .i64 1000] W fun e w' => e = .returned (.bool (inB (y, 1, 1000))) ∧ W = w') := in_any _ _ _
  have J1 : Hid (inB (y, 1, 1000) = true → _) := fun h => inB_ok h
  have HK : Hid (bchk b 32 = 0 → _) := fun h => bchk_ok b 32 h
  have H2 : Hid (bchk b 32 = 0 ∨ bchk b 32 = 1) := bchk_two b 32
  generalize bchk b 32 = K at *
  generalize inB (x, 0, 10) = F0 at *
  generalize inB (y, 1, 1000) = F1 at *
  unfold BlueIn.val
  clear hb
  have hbw := Lib.hid ((Below.refl w.heap.size w).alloc (Nat.le_refl _) (.cells #[.int .i64 b.makes, .int .i64 b.per, .int .i64 b.time, .slice b.addr b.needs.length b.cap, .int .i64 b.copy, .int .i64 b.study, .int .i64 b.most] 24))
  rcases H2.out with rfl | rfl
  case inr =>
    have HV : Hid (needsV b x y = ([], 1)) := HS.out
    generalize needsV b x y = V at *
    go_enter Try.func9, Try.ntmps9
    go_wp2_with (first | (go_at_call 16; ((with_reducible refine (CK.out _ hbw.out).mono ?_); rintro e w1 ⟨rfl, hb1⟩; have hb1' := hbw.out.trans (hb1.mono (by simp)); have c3 := box_cell hb1 3; simp only [List.getElem?_toArray, List.getElem?_cons_zero, List.getElem?_cons_succ] at c3)))
    go_ret2
    exact HN.out V (.inl HV.out) _ hb1' _ (by rw [HV.out]; rfl)
  cases F0
  case false =>
    have HV : Hid (needsV b x y = ([], 1)) := HS.out
    generalize needsV b x y = V at *
    go_enter Try.func9, Try.ntmps9
    go_wp2_with (first | (go_at_call 16; ((with_reducible refine (CK.out _ hbw.out).mono ?_); rintro e w1 ⟨rfl, hb1⟩; have hb1' := hbw.out.trans (hb1.mono (by simp)); have c3 := box_cell hb1 3; simp only [List.getElem?_toArray, List.getElem?_cons_zero, List.getElem?_cons_succ] at c3)) | (go_at_call 26; ((first | (with_reducible refine (I0.out _).mono ?_)); rintro e w2 ⟨rfl, rfl⟩)))
    go_ret2
    exact HN.out V (.inl HV.out) _ hb1' _ (by rw [HV.out]; rfl)
  cases F1
  case false =>
    have HV : Hid (needsV b x y = ([], 1)) := HS.out
    generalize needsV b x y = V at *
    go_enter Try.func9, Try.ntmps9
    go_wp2_with (first | (go_at_call 16; ((with_reducible refine (CK.out _ hbw.out).mono ?_); rintro e w1 ⟨rfl, hb1⟩; have hb1' := hbw.out.trans (hb1.mono (by simp)); have c3 := box_cell hb1 3; simp only [List.getElem?_toArray, List.getElem?_cons_zero, List.getElem?_cons_succ] at c3)) | (go_at_call 26; ((first | (with_reducible refine (I0.out _).mono ?_) | (with_reducible refine (I1.out _).mono ?_)); rintro e w2 ⟨rfl, rfl⟩)))
    go_ret2
    exact HN.out V (.inl HV.out) _ hb1' _ (by rw [HV.out]; rfl)
  case true =>
    have HV : Hid (needsV b x y = (if ndsOk b.needs x y b.needs.length then (nds b.needs x y b.needs.length, 0) else ([], 5))) := HS.out
    generalize needsV b x y = V at *
    have hF := (HK.out rfl).2.2.2.2.2.2.2
    obtain ⟨hx1, hx2⟩ := J0.out rfl
    obtain ⟨hy1, hy2⟩ := J1.out rfl
    have HXY : Hid (0 ≤ x ∧ x ≤ 10 ∧ 1 ≤ y ∧ y ≤ 1000) := ⟨hx1, hx2, hy1, hy2⟩
    have HF := Lib.hid hF
    have HL : Hid (b.needs.length ≤ 12) := HB.out.1
    clear hx1 hx2 hy1 hy2 hF
    go_enter Try.func9, Try.ntmps9
    go_wp2_with (first | (go_at_call 16; ((with_reducible refine (CK.out _ hbw.out).mono ?_); rintro e w1 ⟨rfl, hb1⟩; have hb1' := hbw.out.trans (hb1.mono (by simp)); have c3 := box_cell hb1 3; simp only [List.getElem?_toArray, List.getElem?_cons_zero, List.getElem?_cons_succ] at c3)) | (go_at_call 26; ((first | (with_reducible refine (I0.out _).mono ?_) | (with_reducible refine (I1.out _).mono ?_)); rintro e w2 ⟨rfl, rfl⟩)))
    have HST := Lib.hid (HB.out.2.1.below hb1')
    have HBX := Lib.hid (box_lt hb1)
    clear HB CK hbw I0 I1 J0 J1 HS HK
    go_loopw [8, 9] (fun o i wr => ∃ k : Nat, k ≤ b.needs.length ∧ i = .int .i64 k ∧ wr.ownsRow w1.heap.size 30 2 o k (stkVals (nds b.needs x y k)) ∧ Hid (ndsOk b.needs x y k = true) ∧ Below w1.heap.size w1 wr) (fun _ i _ => b.needs.length - (intOf i).toNat)
    case atStart => exact ⟨0, by omega, rfl, ⟨rfl, .inl ⟨rfl, rfl⟩⟩, rfl, Below.refl _ _⟩
    case round =>
      obtain ⟨k, hk, rfl, hown, HO, hbr⟩ := hrel
      have c3r := (hbr.cell HBX.out).trans c3
      have hl12 : b.needs.length ≤ 12 := HL.out
      clear c3
      by_cases hlt : k < b.needs.length
      · obtain ⟨g, off, ha, hgl, hc, hd⟩ := (Stks.below HST.out hbr) k hlt
        have hlt1 : (k : Int) < (b.needs.length : Int) := by omega
        have HK : Hid (nds b.needs x y (k + 1) = nds b.needs x y k ++ [((b.needs.getD k (0, 0)).1, max (upI ((b.needs.getD k (0, 0)).2 * (y * (100 - x))) 100) y)]) := rfl
        have HO1 : Hid (max (upI ((b.needs.getD k (0, 0)).2 * (y * (100 - x))) 100) y ≤ 1125899906842624 → ndsOk b.needs x y (k + 1) = true) := fun h => by
          rw [ndsOk, HO.out]
          exact decide_eq_true h
        have HO2 : Hid (¬ max (upI ((b.needs.getD k (0, 0)).2 * (y * (100 - x))) 100) y ≤ 1125899906842624 → ndsOk b.needs x y b.needs.length = false) := fun h => ndsOk_no _ _ _ k _ h hlt
        obtain ⟨hx1, hx2, hy1, hy2⟩ := HXY.out
        have hQ := (HF.out k hlt).2
        have hU := hundreds ((b.needs.getD k (0, 0)).2 * y) (100 - x) (by omega) (Int.mul_nonneg (by omega) (by omega))
        rw [Int.mul_assoc] at hU
        have mN := mul_bd (show 0 ≤ (b.needs.getD k (0, 0)).2 by omega) hQ.2 (show 0 ≤ y by omega) hy2
        generalize upI ((b.needs.getD k (0, 0)).2 * (y * (100 - x))) 100 = U at *
        generalize (b.needs.getD k (0, 0)).1 = T at *
        generalize (b.needs.getD k (0, 0)).2 = Q at *
        obtain ⟨N, qN, zN⟩ : ∃ P, wrap64 (Q * y) = P ∧ P = Q * y := ⟨_, by generalize Q * y = P at *; unfold wrap64; omega, rfl⟩
        rw [← zN] at hU mN
        obtain ⟨D, qD, zD⟩ : ∃ P, wrap64 (100 - x) = P ∧ P = 100 - x := ⟨_, by unfold wrap64; omega, rfl⟩
        rw [← zD] at hU
        obtain ⟨H, qH, zH⟩ : ∃ P, wrap64 (N.tdiv 100) = P ∧ P = N / 100 := ⟨_, by rw [Int.tdiv_eq_ediv_of_nonneg mN.1]; unfold wrap64; omega, rfl⟩
        obtain ⟨R, qR, zR⟩ : ∃ P, N.tmod 100 = P ∧ P = N % 100 := ⟨_, by rw [Int.tmod_eq_emod_of_nonneg mN.1], rfl⟩
        have qR2 : wrap64 R = R := by unfold wrap64; omega
        rw [← zH, ← zR] at hU
        have mH := mul_bd (show 0 ≤ H by omega) (show H ≤ 11258999068426240 by omega) (show 0 ≤ D by omega) (show D ≤ 100 by omega)
        have mR := mul_bd (show 0 ≤ R by omega) (show R ≤ 99 by omega) (show 0 ≤ D by omega) (show D ≤ 100 by omega)
        obtain ⟨P1, q1, z1⟩ : ∃ P, wrap64 (H * D) = P ∧ P = H * D := ⟨_, by generalize H * D = P at *; unfold wrap64; omega, rfl⟩
        obtain ⟨P2, q2, z2⟩ : ∃ P, wrap64 (R * D) = P ∧ P = R * D := ⟨_, by generalize R * D = P at *; unfold wrap64; omega, rfl⟩
        rw [← z1] at hU mH
        rw [← z2] at hU mR
        have CU : Hid (∀ W : World, Calls Try.prog 27 #[.int .i64 P2, .int .i64 100] W fun e w' => e = .returned (.int .i64 (upI P2 100)) ∧ W = w') := fun W => up_int P2 100 mR.1 (by omega) (by omega) (by omega) W
        have bU := upI_le P2 100 mR.1 (by omega)
        have bU0 := upI_nonneg P2 100 mR.1 (by omega)
        generalize upI P2 100 = U2 at *
        have qS : wrap64 (P1 + U2) = U := by rw [← hU]; unfold wrap64; omega
        clear hU bU bU0 mH mR z1 z2 zR zH zD zN mN hQ hx1 hx2 hy1 hy2
        rw [Int.max_comm U y] at HO1 HO2 HK
        generalize b.addr = A at *
        subst ha
        by_cases g1 : max y U ≤ 1125899906842624
        · have d1 : decide (1125899906842624 < max y U) = false := decide_eq_false (by omega)
          have HK1 := Lib.hid (HO1.out g1)
          have hx3 : Hid (Below w1.heap.size w1 wr) := hbr
          clear g1
          go_wp2_with (first
            | (go_at_call 27; ((with_reducible refine (CU.out _).mono ?_); rintro e w2 ⟨rfl, rfl⟩))
            | (at_builtin; refine list_pair rfl (.tmp 60) (.tmp 69) 22 rfl w1.heap.size 30 i0 _ 16 Try.underlying22 hi hz0 hz1 hz2 rfl _ k _ rfl _ _ _ _ rfl (hown.alloc _) (pair_new _ _ _ _).1 (pair_new _ _ _ _).2 rfl rfl ?h1 ?h2 ?h3 ?_; (case h1 => have := HL.out; unfold maxLen; omega); (case h2 => have := HL.out; omega); (case h3 => have := hx3.out.size; simp; omega); intro v' w3 hown3 hgrow3))
          go_roundw
          case rel => exact ⟨k + 1, by omega, by go_num, by rw [HK.out, stkVals_append]; exact hown3, HK1, (below_al hx3.out _).grown hgrow3 (below_al hx3.out _).size (Own.own_block hown (Nat.le_refl _))⟩
          case measure => simp [intOf]; omega
        · have d1 : decide (1125899906842624 < max y U) = true := decide_eq_true (by omega)
          have HK1 := Lib.hid (HO2.out g1)
          have hx3 : Hid (Below w1.heap.size w1 wr) := hbr
          clear g1
          go_wp2_with (go_at_call 27; ((with_reducible refine (CU.out _).mono ?_); rintro e w2 ⟨rfl, rfl⟩))
          go_ret2
          have hV2 : V = ([], 5) := by rw [HV.out, HK1.out]; rfl
          exact HN.out V (.inr hV2) _ (below2 hb1' hx3.out) _ (by rw [hV2]; rfl)
      · have hke : k = b.needs.length := by omega
        subst hke
        have hV2 : Hid (V = (nds b.needs x y b.needs.length, 0)) := by show V = _; rw [HV.out, HO.out]; rfl
        have hown1 : Hid (wr.ownsRow w1.heap.size 30 2 u8 (nds b.needs x y b.needs.length).length (stkVals (nds b.needs x y b.needs.length))) := by show World.ownsRow _ _ _ _ _ _ _; rw [nds_length]; exact hown
        obtain ⟨a2, c2, rfl, hst⟩ := stks_of_own hown1.out
        rw [nds_length] at *
        have hbb := Lib.hid (below2 hb1' hbr)
        go_wp2
        go_ret2
        exact ⟨a2, c2, by rw [hV2.out]; simp only [nds_length]; rfl, by rw [hV2.out]; exact hst, hbb.out⟩
end Rec
end Go.Proofs.Ytblefohjnmmpmaa
