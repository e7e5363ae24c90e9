/- How parts are compared. -/
import Derived.Test.YtbfcgaijplhcoaaFeeX
namespace Go.Proofs.Ytbfcgaijplhcoaa
open Go.RowKit
namespace Fee
theorem isNaN_any (x : Int) (w : World) : Calls Try.prog 34 #[.int .u64 x] w fun e w' => e = .returned (.bool false) ∧ w = w' := by
  go_enter Try.func34, Try.ntmps34
  go_wp2
  go_ret
  exact ⟨by simp, rfl⟩
/-- What cmp.Compare answers. -/
def cmpV (x y : Int) : Int := if x < y then -1 else if y < x then 1 else 0
theorem compare_any (x y : Int) (w : World) : Calls Try.prog 25 #[.int .u64 x, .int .u64 y] w fun e w' => e = .returned (.int .i64 (cmpV x y)) ∧ w = w' := by
  have N1 : Hid (∀ W, Calls Try.prog 34 #[.int .u64 x] W fun e w' => e = .returned (.bool false) ∧ W = w') := isNaN_any x
  have N2 : Hid (∀ W, Calls Try.prog 34 #[.int .u64 y] W fun e w' => e = .returned (.bool false) ∧ W = w') := isNaN_any y
  have HS : Hid (cmpV x y = if x < y then -1 else if y < x then 1 else 0) := rfl
  generalize cmpV x y = V at *
  by_cases h1 : x < y
  · have d1 := decide_eq_true h1
    have HV : Hid (V = -1) := by show V = _; rw [HS.out, if_pos h1]
    clear h1
    go_enter Try.func25, Try.ntmps25
    go_wp2_with (go_at_call 34; ((first | (with_reducible refine (N1.out _).mono ?_) | (with_reducible refine (N2.out _).mono ?_)); rintro e w1 ⟨rfl, rfl⟩))
    go_ret
    exact ⟨by rw [HV.out]; rfl, rfl⟩
  · have d1 := decide_eq_false h1
    by_cases h2 : y < x
    · have d2 := decide_eq_true h2
      have HV : Hid (V = 1) := by show V = _; rw [HS.out, if_neg h1, if_pos h2]
      clear h1 h2
      go_enter Try.func25, Try.ntmps25
      go_wp2_with (go_at_call 34; ((first | (with_reducible refine (N1.out _).mono ?_) | (with_reducible refine (N2.out _).mono ?_)); rintro e w1 ⟨rfl, rfl⟩))
      go_ret
      exact ⟨by rw [HV.out]; rfl, rfl⟩
    · have d2 := decide_eq_false h2
      have HV : Hid (V = 0) := by show V = _; rw [HS.out, if_neg h1, if_neg h2]
      clear h1 h2
      go_enter Try.func25, Try.ntmps25
      go_wp2_with (go_at_call 34; ((first | (with_reducible refine (N1.out _).mono ?_) | (with_reducible refine (N2.out _).mono ?_)); rintro e w1 ⟨rfl, rfl⟩))
      go_ret
      exact ⟨by rw [HV.out]; rfl, rfl⟩
/-- A part behind another one where less is left of it. -/
theorem parts_any (i x j y : Int) (w : World) : Calls Try.prog 24 #[.agg #[.int .i64 i, .int .u64 x], .agg #[.int .i64 j, .int .u64 y]] w fun e w' => e = .returned (.int .i64 (cmpV y x)) ∧ Below w.heap.size w w' := by
  have CC : Hid (∀ W, Calls Try.prog 25 #[.int .u64 y, .int .u64 x] W fun e w' => e = .returned (.int .i64 (cmpV y x)) ∧ W = w') := compare_any y x
  generalize cmpV y x = V at *
  go_enter Try.func24, Try.ntmps24
  go_wp2_with (go_at_call 25; ((with_reducible refine (CC.out _).mono ?_); rintro e w1 ⟨rfl, rfl⟩))
  go_ret
  exact ⟨by rfl, below_al ((Below.refl _ _).alloc (Nat.le_refl _) _) _⟩
end Fee
end Go.Proofs.Ytbfcgaijplhcoaa
