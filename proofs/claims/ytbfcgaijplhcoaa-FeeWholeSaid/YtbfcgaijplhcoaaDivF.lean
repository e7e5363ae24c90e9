/- Scale, for any numbers: what it answers. -/
import Derived.Test.YtbfcgaijplhcoaaDivS
namespace Go.Proofs.Ytbfcgaijplhcoaa
open Go.RowKit
namespace Div
set_option maxHeartbeats 400000 in
theorem scale_over (a b c hi lo : Int) (up : Bool) (ka : ¬ a < 0) (kb : ¬ b < 0) (kc : ¬ c < 1) (kw : IntKind.u64.wrap a = a) (kw2 : IntKind.u64.wrap b = b) (kw3 : IntKind.u64.wrap c = c)
    (CM : ∀ w : World, Calls Try.prog 21 #[.int .u64 a, .int .u64 b] w fun e w' => e = .returned (.tuple #[.int .u64 hi, .int .u64 lo]) ∧ w = w')
    (hh : c ≤ hi) (w : World) :
    Calls Try.prog 27 #[.int .i64 a, .int .i64 b, .int .i64 c, .bool up] w fun e w' => e = .returned (.tuple #[.int .i64 0, .int .i64 5]) ∧ Below w.heap.size w w' := by
  replace CM := Lib.hid CM
  have da : decide (a < 0) = false := decide_eq_false ka
  have db : decide (b < 0) = false := decide_eq_false kb
  have dc : decide (c < 1) = false := decide_eq_false kc
  have dh : decide (c ≤ hi) = true := decide_eq_true hh
  go_enter Try.func27, Try.ntmps27
  go_wp2_with (go_at_call 21; ((with_reducible refine (CM.out _).mono ?_); rintro e w1 ⟨rfl, rfl⟩))
  go_ret2
  exact ⟨rfl, Below.refl _ _⟩
theorem wrap64_id (n : Nat) (h : n ≤ 9223372036854775807) : wrap64 (n : Int) = n := by unfold wrap64; omega
theorem scale_full (a b c : Nat) (up : Bool) (ha : a ≤ 9223372036854775807) (hb : b ≤ 9223372036854775807) (hc : 1 ≤ c) (hc2 : c ≤ 9223372036854775807) (w : World) :
    Calls Try.prog 27 #[.int .i64 (a : Int), .int .i64 (b : Int), .int .i64 (c : Int), .bool up] w fun e w' => e = .returned (.tuple #[.int .i64 (sV a b c up), .int .i64 (sE a b c up)]) ∧ Below w.heap.size w w' := by
  have e := Nat.div_add_mod (a * b) 18446744073709551616
  have hl := Nat.mod_lt (a * b) (show 0 < 18446744073709551616 by decide)
  have CM : ∀ w : World, Calls Try.prog 21 #[.int .u64 (a : Int), .int .u64 (b : Int)] w fun e w' => e = .returned (.tuple #[.int .u64 ((a * b / 18446744073709551616 : Nat) : Int), .int .u64 ((a * b % 18446744073709551616 : Nat) : Int)]) ∧ w = w' :=
    fun w => (Try.bits_Mul64 a b (by omega) (by omega) w).mono fun e w' ⟨h1, h2⟩ => ⟨h1, h2.symm⟩
  by_cases hh : c ≤ a * b / 18446744073709551616
  · have big : ¬ scl a b c up ≤ 9223372036854775807 := by
      have h1 : 18446744073709551616 ≤ a * b / c := by
        rw [Nat.le_div_iff_mul_le (by omega)]
        have := Nat.mul_le_mul_left 18446744073709551616 hh
        omega
      have h2 : a * b / c ≤ scl a b c up := Nat.le_add_right _ _
      omega
    rw [sV_no big, sE_no big]
    exact scale_over a b c _ _ up (by omega) (by omega) (by omega) (by rw [w64]; omega) (by rw [w64]; omega) (by rw [w64]; omega) CM (by omega) w
  · have CD := div_any (a * b / 18446744073709551616) (a * b % 18446744073709551616) c (by omega) (by omega) hl
    have e2 : a * b / 18446744073709551616 * 18446744073709551616 + a * b % 18446744073709551616 = a * b := by omega
    rw [e2] at CD
    have hs : scl a b c up = a * b / c + if up && decide (0 < a * b % c) then 1 else 0 := rfl
    have hqb : a * b / c < 18446744073709551616 := by
      rw [Nat.div_lt_iff_lt_mul (by omega)]
      have := Nat.mul_le_mul_left 18446744073709551616 (show a * b / 18446744073709551616 + 1 ≤ c by omega)
      omega
    unfold sV sE
    generalize scl a b c up = S at *
    refine scale_core a b c _ _ ((a * b / c : Nat) : Int) ((a * b % c : Nat) : Int) up (by omega) (by omega) (by omega) (by rw [w64]; omega) (by rw [w64]; omega) (by rw [w64]; omega) CM (by omega) CD
      (IntKind.u64.wrap (((a * b / c : Nat) : Int) + 1)) _ _ rfl ?_ ?_ w
    · intro h
      have : S = a * b / c := by
        rcases h with rfl | h
        · simpa using hs
        · rw [hs, decide_eq_false (by omega), Bool.and_false]; rfl
      generalize a * b / c = q at *
      refine ⟨fun h => ⟨by rw [if_neg (by omega)], by rw [if_neg (by omega)]⟩, fun h => ⟨?_, by rw [if_pos (by omega)]⟩⟩
      rw [if_pos (by omega), wrap64_id q (by omega), this]
    · intro hu hr
      have : S = a * b / c + 1 := by rw [hs, hu, decide_eq_true (by omega)]; rfl
      generalize a * b / c = q at *
      refine ⟨fun h => ⟨by rw [if_neg (by omega)], by rw [if_neg (by omega)]⟩, fun h => ?_⟩
      have ew : IntKind.u64.wrap ((q : Int) + 1) = ((q + 1 : Nat) : Int) := by rw [w64]; omega
      rw [ew]
      refine ⟨fun h => ⟨by rw [if_neg (by omega)], by rw [if_neg (by omega)]⟩, fun h => ⟨?_, by rw [if_pos (by omega)]⟩⟩
      rw [if_pos (by omega), wrap64_id (q + 1) (by omega), this]
end Div
end Go.Proofs.Ytbfcgaijplhcoaa
