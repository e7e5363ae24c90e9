/- The reference's Ways whole; are lists the same; what must come whatever the arguments are. -/
import Derived.Test.YtjdkkldlghdojaaGraY4
import Derived.Test.YtjdkkldlghdojaaPrsIn
namespace Go.Proofs.Ytjdkkldlghdojaa
open Go.RowKit
namespace Gra
open In (Ints IsInts)
theorem ext_int (l m : List Int) (h : l.length = m.length) (hg : ∀ j, j < l.length → l.getD j 0 = m.getD j 0) : l = m := by
  apply List.ext_getElem h
  intro j h1 h2
  have := hg j h1
  rwa [List.getD_eq_getElem?_getD, List.getD_eq_getElem?_getD, List.getElem?_eq_getElem h1, List.getElem?_eq_getElem h2] at this
set_option maxHeartbeats 1000000 in
theorem same_any (a b : Option Addr) (c1 c2 : Nat) (l m : List Int) (hl : l.length ≤ 4096) (hm : m.length ≤ 4096) (w : World) (ha : Ints .i64 w a l) (hb : Ints .i64 w b m) :
    Calls Try.prog 16 #[.slice a l.length c1, .slice b m.length c2] w fun e w' => e = .returned (.bool (decide (l = m))) ∧ Below w.heap.size w w' := by
  have HA := Lib.hid ha
  have HB := Lib.hid hb
  clear ha hb
  by_cases hlen : l.length = m.length
  · rw [← hlen]
    have HLEN := Lib.hid hlen
    clear hlen
    go_enter Try.func16, Try.ntmps16
    go_wp2
    go_loopw [5] (fun i wr => ∃ k : Nat, k ≤ l.length ∧ i = .int .i64 k ∧ Hid (∀ j, j < k → l.getD j 0 = m.getD j 0) ∧ Below w.heap.size w wr) (fun i _ => l.length - (intOf i).toNat)
    case atStart => exact ⟨0, by omega, rfl, fun j hj => by omega, Below.refl _ _⟩
    case round =>
      obtain ⟨k, hk, rfl, HE, hb⟩ := hrel
      by_cases hlt : k < l.length
      · obtain ⟨b1, o1, rfl, hbl1, hc1⟩ := (Ints.below HA.out hb) k hlt
        obtain ⟨b2, o2, rfl, hbl2, hc2⟩ := (Ints.below HB.out hb) k (by rw [← HLEN.out]; exact hlt)
        have hlt1 : (k : Int) < (l.length : Int) := by omega
        have e1 : decide ((k : Int) < (l.length : Int)) = true := decide_eq_true hlt1
        have hy : Hid (l.getD k 0 = m.getD k 0 → ∀ j, j < k + 1 → l.getD j 0 = m.getD j 0) := fun h j hj => by
          by_cases e : j = k
          · subst e; exact h
          · exact HE.out j (by omega)
        have hn : Hid (¬ l.getD k 0 = m.getD k 0 → decide (l = m) = false) := fun h => decide_eq_false fun e => h (by subst e; rfl)
        generalize l.getD k 0 = T1 at *
        generalize m.getD k 0 = T2 at *
        by_cases g1 : T1 = T2
        · subst g1
          have HY := Lib.hid (hy.out rfl)
          go_wp2
          go_quiet (fail)
          go_wp2
          go_roundw
          case rel => exact ⟨k + 1, by omega, by go_num, HY, below_dN hb _⟩
          case measure => simp [intOf]; omega
        · have d1 : (T1 == T2) = false := beq_eq_false_iff_ne.2 g1
          have HN := Lib.hid (hn.out g1)
          go_wp2
          go_quiet (fail)
          go_wp2
          go_ret
          exact ⟨by rw [HN.out]; rfl, below_dN hb _⟩
      · have hke : k = l.length := by omega
        rw [hke] at HE
        have HN : Hid (decide (l = m) = true) := decide_eq_true (ext_int l m HLEN.out HE.out)
        have n1 : ¬ (k : Int) < (l.length : Int) := by omega
        have e1 : decide ((k : Int) < (l.length : Int)) = false := decide_eq_false n1
        clear hke
        go_wp2
        go_ret
        exact ⟨by rw [HN.out]; rfl, hb⟩
  · have dl : ((l.length : Int) == (m.length : Int)) = false := beq_eq_false_iff_ne.2 (by omega)
    have hlen' : ¬ (l.length : Int) = (m.length : Int) := by omega
    have HN : Hid (decide (l = m) = false) := decide_eq_false fun e => hlen (by rw [e])
    go_enter Try.func16, Try.ntmps16
    go_wp2
    go_ret
    exact ⟨by rw [HN.out]; rfl, Below.refl _ _⟩
set_option maxRecDepth 100000 in
set_option maxHeartbeats 8000000 in
theorem refWays_any (n : Int) (a : Option Addr) (cap : Nat) (l : List (Int × Int)) (f z : Int) (w : World) (ha : Prs w a l) :
    Calls Try.prog 9 #[.int .i64 n, .slice a l.length cap, .int .i64 f, .int .i64 z] w (WOut (waysRes n l f z) w) := by
  have CM := Lib.hid (may_any n a cap l w ha)
  by_cases hg : Good n l
  · rw [decide_eq_true hg] at CM
    by_cases h1 : f < 1
    · have HR : Hid (waysRes n l f z = (0, 1)) := by show _ = _; unfold waysRes; rw [if_neg (fun h => by have := inW_yes h.2.1; omega)]
      have d1 : decide (f < 1) = true := decide_eq_true h1
      rw [HR.out]
      clear ha hg h1
      go_enter Try.func9, Try.ntmps9
      go_wp2_with (go_at_call 21; ((with_reducible refine CM.out.mono ?_); rintro e w1 ⟨rfl, hB1⟩; have HB1 := Lib.hid hB1; clear hB1))
      go_ret2
      exact ⟨rfl, HB1.out⟩
    · have d1 : decide (f < 1) = false := decide_eq_false h1
      by_cases h2 : n < f
      · have HR : Hid (waysRes n l f z = (0, 1)) := by show _ = _; unfold waysRes; rw [if_neg (fun h => by have := inW_yes h.2.1; omega)]
        have d2 : decide (n < f) = true := decide_eq_true h2
        rw [HR.out]
        clear ha hg h1 h2
        go_enter Try.func9, Try.ntmps9
        go_wp2_with (go_at_call 21; ((with_reducible refine CM.out.mono ?_); rintro e w1 ⟨rfl, hB1⟩; have HB1 := Lib.hid hB1; clear hB1))
        go_ret2
        exact ⟨rfl, HB1.out⟩
      · have d2 : decide (n < f) = false := decide_eq_false h2
        by_cases h3 : z < 1
        · have HR : Hid (waysRes n l f z = (0, 1)) := by show _ = _; unfold waysRes; rw [if_neg (fun h => by have := inW_yes h.2.2; omega)]
          have d3 : decide (z < 1) = true := decide_eq_true h3
          rw [HR.out]
          clear ha hg h1 h2 h3
          go_enter Try.func9, Try.ntmps9
          go_wp2_with (go_at_call 21; ((with_reducible refine CM.out.mono ?_); rintro e w1 ⟨rfl, hB1⟩; have HB1 := Lib.hid hB1; clear hB1))
          go_ret2
          exact ⟨rfl, HB1.out⟩
        · have d3 : decide (z < 1) = false := decide_eq_false h3
          by_cases h4 : n < z
          · have HR : Hid (waysRes n l f z = (0, 1)) := by show _ = _; unfold waysRes; rw [if_neg (fun h => by have := inW_yes h.2.2; omega)]
            have d4 : decide (n < z) = true := decide_eq_true h4
            rw [HR.out]
            clear ha hg h1 h2 h3 h4
            go_enter Try.func9, Try.ntmps9
            go_wp2_with (go_at_call 21; ((with_reducible refine CM.out.mono ?_); rintro e w1 ⟨rfl, hB1⟩; have HB1 := Lib.hid hB1; clear hB1))
            go_ret2
            exact ⟨rfl, HB1.out⟩
          · have d4 : decide (n < z) = false := decide_eq_false h4
            have hf : inW f n = true := by unfold inW; simp; omega
            have hz : inW z n = true := by unfold inW; simp; omega
            by_cases hs : (ord n.toNat l).length < n.toNat
            · have HR : Hid (waysRes n l f z = (0, 9)) := by show _ = _; unfold waysRes; rw [if_pos ⟨hg, hf, hz⟩, if_pos hs]
              rw [HR.out]
              have CO : Hid (∀ w1 : World, Below w.heap.size w w1 → Calls Try.prog 11 #[.int .i64 n, .slice a l.length cap] w1 (ListOut ([], 9) w1)) := fun w1 hb => by
                have := refOrder_core n a cap l w1 (ha.below hb)
                rwa [show ordRes n l = ([], 9) by unfold ordRes; rw [if_pos hg, if_pos hs]] at this
              replace hf := Lib.hid hf
              replace hz := Lib.hid hz
              clear ha hg hs h1 h2 h3 h4
              go_enter Try.func9, Try.ntmps9
              go_wp2_with (first
                | (go_at_call 21; ((with_reducible refine CM.out.mono ?_); rintro e w1 ⟨rfl, hB1⟩; have HB1 := Lib.hid hB1; clear hB1))
                | (go_at_call 11; ((with_reducible refine (CO.out _ HB1.out).mono ?_); rintro e w2 ⟨av, cv, rfl, _, hB2⟩; have HB2 := Lib.hid hB2; clear hB2)))
              go_ret2
              exact ⟨rfl, HB1.out.trans (HB2.out.mono HB1.out.size)⟩
            · obtain ⟨N, rfl⟩ : ∃ N : Nat, n = (N : Int) := ⟨n.toNat, by have := hg.1; omega⟩
              obtain ⟨F, rfl⟩ : ∃ F : Nat, f = (F : Int) := ⟨f.toNat, by omega⟩
              obtain ⟨Z, rfl⟩ : ∃ Z : Nat, z = (Z : Int) := ⟨z.toNat, by omega⟩
              rw [Int.toNat_natCast] at hs
              have HR : waysRes (N : Int) l F Z = (if waysV N l F Z ≤ MX then (waysV N l F Z, 0) else (0, 5)) := by unfold waysRes; rw [if_pos ⟨hg, hf, hz⟩, Int.toNat_natCast, if_neg hs]
              rw [HR]
              refine refWays_yes N a cap l F Z hg (by omega) (by omega) (by omega) (by omega) hs _ _ ?_ w ha
              by_cases h : waysV N l F Z ≤ MX
              · rw [if_pos h, if_pos h, if_pos h]; exact ⟨rfl, rfl⟩
              · rw [if_neg h, if_neg h, if_neg h]; exact ⟨rfl, rfl⟩
  · have HR : Hid (waysRes n l f z = (0, 1)) := by show _ = _; unfold waysRes; rw [if_neg (fun h => hg h.1)]
    rw [HR.out]
    rw [decide_eq_false hg] at CM
    clear ha hg
    go_enter Try.func9, Try.ntmps9
    go_wp2_with (go_at_call 21; ((with_reducible refine CM.out.mono ?_); rintro e w1 ⟨rfl, hB1⟩; have HB1 := Lib.hid hB1; clear hB1))
    go_ret2
    exact ⟨rfl, HB1.out⟩
/-- Pairs that stand in a new block. -/
theorem prs_two (w : World) (a b c d : Int) (t : TypeId) : Prs (w.alloc (.cells #[.int .i64 a, .int .i64 b, .int .i64 c, .int .i64 d] t)) (some ⟨w.heap.size, 0, none⟩) [(a, b), (c, d)] := fun i hi => by
  have h := heap_alloc_new w (.cells #[.int .i64 a, .int .i64 b, .int .i64 c, .int .i64 d] t)
  match i, hi with
  | 0, _ => exact ⟨_, 0, rfl, by simp, (cell_of_row _ _ _ _ _ _ h).trans rfl, (cell_of_row _ _ _ _ _ _ h).trans rfl⟩
  | 1, _ => exact ⟨_, 0, rfl, by simp, (cell_of_row _ _ _ _ _ _ h).trans rfl, (cell_of_row _ _ _ _ _ _ h).trans rfl⟩
theorem prs_three (w : World) (a b c d e f : Int) (t : TypeId) : Prs (w.alloc (.cells #[.int .i64 a, .int .i64 b, .int .i64 c, .int .i64 d, .int .i64 e, .int .i64 f] t)) (some ⟨w.heap.size, 0, none⟩) [(a, b), (c, d), (e, f)] := fun i hi => by
  have h := heap_alloc_new w (.cells #[.int .i64 a, .int .i64 b, .int .i64 c, .int .i64 d, .int .i64 e, .int .i64 f] t)
  match i, hi with
  | 0, _ => exact ⟨_, 0, rfl, by simp, (cell_of_row _ _ _ _ _ _ h).trans rfl, (cell_of_row _ _ _ _ _ _ h).trans rfl⟩
  | 1, _ => exact ⟨_, 0, rfl, by simp, (cell_of_row _ _ _ _ _ _ h).trans rfl, (cell_of_row _ _ _ _ _ _ h).trans rfl⟩
  | 2, _ => exact ⟨_, 0, rfl, by simp, (cell_of_row _ _ _ _ _ _ h).trans rfl, (cell_of_row _ _ _ _ _ _ h).trans rfl⟩
theorem ints_three (w : World) (a b c : Int) (t : TypeId) : Ints .i64 (w.alloc (.cells #[.int .i64 a, .int .i64 b, .int .i64 c] t)) (some ⟨w.heap.size, 0, none⟩) [a, b, c] := fun i hi => by
  have h := heap_alloc_new w (.cells #[.int .i64 a, .int .i64 b, .int .i64 c] t)
  match i, hi with
  | 0, _ => exact ⟨_, 0, rfl, by simp, (cell_of_row _ _ _ _ _ _ h).trans rfl⟩
  | 1, _ => exact ⟨_, 0, rfl, by simp, (cell_of_row _ _ _ _ _ _ h).trans rfl⟩
  | 2, _ => exact ⟨_, 0, rfl, by simp, (cell_of_row _ _ _ _ _ _ h).trans rfl⟩
theorem good_of {n : Int} {l : List (Int × Int)} (h0 : decide (0 ≤ n ∧ n ≤ 64 ∧ l.length ≤ 256) = true) (h1 : l.all (fun e => inW e.1 n && inW e.2 n) = true) : Good n l := by
  have h := of_decide_eq_true h0
  refine ⟨h.1, h.2.1, h.2.2, fun j hj => ?_⟩
  rw [List.all_eq_true] at h1
  have := h1 (l.getD j (0, 0)) (by rw [List.getD_eq_getElem?_getD, List.getElem?_eq_getElem hj]; exact List.getElem_mem _)
  rwa [Bool.and_eq_true] at this
theorem aw1 : ordRes 3 [(1, 3), (2, 1)] = ([3, 1, 2], 0) := by
  unfold ordRes
  rw [if_pos (good_of (by decide) (by decide)), show ord (Int.toNat 3) [(1, 3), (2, 1)] = [3, 1, 2] by decide]; rfl
theorem aw2 : ordRes 2 [(1, 2), (2, 1)] = ([], 9) := by
  unfold ordRes
  rw [if_pos (good_of (by decide) (by decide)), show ord (Int.toNat 2) [(1, 2), (2, 1)] = [] by decide]; rfl
theorem aw3 : deepRes 3 [(1, 3), (2, 1)] = ([1, 2, 0], 0) := by
  unfold deepRes
  rw [if_pos (good_of (by decide) (by decide)), show deepF (Int.toNat 3) [(1, 3), (2, 1)] = [1, 2, 0] by decide, show ord (Int.toNat 3) [(1, 3), (2, 1)] = [3, 1, 2] by decide]; rfl
theorem aw4 : waysRes 3 [(2, 1), (2, 3), (1, 3)] 2 3 = (2, 0) := by
  unfold waysRes
  rw [if_pos ⟨good_of (by decide) (by decide), by decide, by decide⟩, show waysV (Int.toNat 3) [(2, 1), (2, 3), (1, 3)] 2 3 = 2 by decide, show ord (Int.toNat 3) [(2, 1), (2, 3), (1, 3)] = [3, 1, 2] by decide]; rfl
end Gra
end Go.Proofs.Ytjdkkldlghdojaa
