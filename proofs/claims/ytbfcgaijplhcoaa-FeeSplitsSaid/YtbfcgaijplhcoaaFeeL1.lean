/- The shares of any number, by any weights: the law's walk. -/
import Derived.Test.YtbfcgaijplhcoaaFeeAw
namespace Go.Proofs.Ytbfcgaijplhcoaa
open Go.Sort Go.RowKit
namespace Fee
open In (Ints IsInts)
theorem splitV_len (n : Int) (l : List Int) (h : l.length ≤ 4096) : (splitV n l).1.length ≤ 4096 := by
  unfold splitV
  split
  · split
    · show (outV _ _ _).length ≤ _
      rw [outV_len]; exact h
    · exact Nat.zero_le _
  · exact Nat.zero_le _
set_option maxRecDepth 100000 in
set_option maxHeartbeats 4000000 in
theorem splits_walk (w : World) (n : Int) (_hn : (Lit.int .i64 n).wf = true) (v : Value) (l : List Int) (hv : IsInts .i64 w v l) :
    Calls Try.prog 3 #[.int .i64 n, v] w fun e w' => e = .returned (.bool true) ∧ Below w.heap.size w w' := by
  obtain ⟨a, cap, rfl, hm, ha, _, _, _⟩ := hv
  unfold maxLen at hm
  by_cases hl : 20 < l.length
  · have d1 : decide ((20 : Int) < (l.length : Int)) = true := decide_eq_true (by omega)
    clear hl
    go_enter Try.func3, Try.ntmps3
    go_wp2_with (go_at_call 6; ((with_reducible refine (awake_any _).mono ?_); rintro e w1 ⟨rfl, hb1⟩))
    go_ret
    exact ⟨rfl, hb1⟩
  · have d1 : decide ((20 : Int) < (l.length : Int)) = false := decide_eq_false (by omega)
    have C1 : Hid (∀ W, Ints .i64 W a l → Calls Try.prog 7 #[.int .i64 n, .slice a l.length cap] W (SplitOut (splitV n l).1 (splitV n l).2 W)) := fun W h => split_any n l a cap (by omega) W h
    have C2 : Hid (∀ W, Ints .i64 W a l → Calls Try.prog 8 #[.int .i64 n, .slice a l.length cap] W (SplitOut (splitV n l).1 (splitV n l).2 W)) := fun W h => refSplit_any n l a cap (by omega) W h
    have hv := splitV_len n l (by omega)
    have C3 : Hid (∀ W a1 c1 a2 c2, Ints .i64 W a1 (splitV n l).1 → Ints .i64 W a2 (splitV n l).1 → Calls Try.prog 9 #[.slice a1 (splitV n l).1.length c1, .slice a2 (splitV n l).1.length c2] W fun e w' => e = .returned (.bool true) ∧ Below W.heap.size W w') := fun W a1 c1 a2 c2 h1 h2 => (same_any a1 a2 c1 c2 _ _ hv hv W h1 h2).mono fun e w' ⟨h1, h2⟩ => ⟨by rw [h1, decide_eq_true rfl], h2⟩
    have HA := Lib.hid ha
    generalize (splitV n l).1 = V at *
    generalize (splitV n l).2 = E at *
    clear ha hl hv
    go_enter Try.func3, Try.ntmps3
    go_wp2_with (first
      | (go_at_call 7; ((with_reducible refine (C1.out _ HA.out).mono ?_); rintro e w1 ⟨a1, c1, rfl, HI1, hb1⟩; replace HI1 := Lib.hid HI1; have HB1 := Lib.hid hb1))
      | (go_at_call 8; ((with_reducible refine (C2.out _ (In.Ints.below HA.out hb1)).mono ?_); rintro e w2 ⟨a2, c2, rfl, HI2, hb2⟩; replace HI2 := Lib.hid HI2; have HI12 := Lib.hid (In.Ints.below HI1.out hb2); have HB2 := Lib.hid (below2 HB1.out hb2)))
      | (go_at_call 9; ((with_reducible refine (C3.out _ _ _ _ _ HI12.out HI2.out).mono ?_); rintro e w3 ⟨rfl, hb3⟩; have HB3 := Lib.hid (below2 HB2.out hb3)))
      | (go_at_call 6; ((with_reducible refine (awake_any _).mono ?_); rintro e w4 ⟨rfl, hb4⟩; have HB4 := Lib.hid (below2 HB3.out hb4))))
    go_ret
    exact ⟨rfl, HB4.out⟩
end Fee
end Go.Proofs.Ytbfcgaijplhcoaa
