/- Scale, as far as the statements reach it, and what awake() answers. -/
import Derived.Test.YtpkicpmbpeginaaCalS
namespace Go.Proofs.Ytpkicpmbpeginaa
open Go.RowKit
namespace Cal
/-- A number times another one, by a third; rounded up, or down. -/
def scl (a b c : Nat) (up : Bool) : Nat := a * b / c + if up && decide (0 < a * b % c) then 1 else 0
set_option maxHeartbeats 1000000 in
theorem scale_any (a b c : Nat) (up : Bool) (ha : a ≤ 9223372036854775807) (hb : b ≤ 9223372036854775807) (hp : a * b ≤ 9223372036854775807) (hc : 1 ≤ c) (hc2 : c ≤ 9223372036854775807) (w : World) :
    Calls Try.prog 7 #[.int .i64 (a : Int), .int .i64 (b : Int), .int .i64 (c : Int), .bool up] w fun e w' => e = .returned (.tuple #[.int .i64 (scl a b c up : Int), .int .i64 0]) ∧ Below w.heap.size w w' := by
  have CM : Hid (∀ w : World, Calls Try.prog 17 #[.int .u64 (a : Int), .int .u64 (b : Int)] w fun e w' => e = .returned (.tuple #[.int .u64 0, .int .u64 ((a * b : Nat) : Int)]) ∧ w = w') := by
    show ∀ w : World, _
    intro w
    refine (Try.bits_Mul64 a b (by omega) (by omega) w).mono fun e w' ⟨h1, h2⟩ => ⟨?_, h2.symm⟩
    rw [h1, show a * b / 18446744073709551616 = 0 from Nat.div_eq_of_lt (by omega), Nat.mod_eq_of_lt (by omega)]
    rfl
  have CD := div_zero_hi (a * b) c (by omega) (by omega) (by omega)
  have hq : a * b / c ≤ a * b := Nat.div_le_self _ _
  have hr : a * b % c < c := Nat.mod_lt _ (by omega)
  have hqc : 0 < a * b % c → a * b / c < 9223372036854775807 := by
    intro h
    rcases Nat.lt_or_ge c 2 with h2 | h2
    · have : c = 1 := by omega
      subst this
      rw [Nat.mod_one] at h
      omega
    · have := Nat.div_le_div_left h2 (by omega) (a := a * b)
      omega
  have hs : Hid (scl a b c up = a * b / c + if up && decide (0 < a * b % c) then 1 else 0) := rfl
  generalize scl a b c up = S at *
  generalize a * b / c = q at *
  generalize a * b % c = r at *
  generalize a * b = p at *
  obtain ⟨Q, hQ⟩ : ∃ Q : Int, (q : Int) = Q := ⟨_, rfl⟩
  rw [hQ] at CD
  have HQ := Lib.hid hQ
  have CD := Lib.hid CD
  have k1 : ¬ (a : Int) < 0 := by omega
  have k1' : decide ((a : Int) < 0) = false := decide_eq_false k1
  have k2 : ¬ (b : Int) < 0 := by omega
  have k2' : decide ((b : Int) < 0) = false := decide_eq_false k2
  have k3 : ¬ (c : Int) < 1 := by omega
  have k3' : decide ((c : Int) < 1) = false := decide_eq_false k3
  have k4 : ¬ (c : Int) ≤ 0 := by omega
  have k4' : decide ((c : Int) ≤ 0) = false := decide_eq_false k4
  have k5 : Q ≤ 9223372036854775807 := by omega
  have k50 : 0 ≤ Q := by omega
  have k6 : (a : Int) ≤ 9223372036854775807 := by omega
  have k7 : (b : Int) ≤ 9223372036854775807 := by omega
  have k8 : (c : Int) ≤ 9223372036854775807 := by omega
  clear ha hb hp hc hc2 hq hr hQ
  cases up
  · have hS : Hid (S = q) := by show S = q; rw [hs.out]; rfl
    clear hqc
    go_enter Try.func7, Try.ntmps7
    go_wp2_with (first
      | (go_at_call 17; ((with_reducible refine (CM.out _).mono ?_); rintro e w1 ⟨rfl, rfl⟩))
      | (go_at_call 18; ((with_reducible refine (CD.out _).mono ?_); rintro e w1 ⟨rfl, hb1⟩)))
    go_ret2
    exact ⟨by rw [hS.out, ← HQ.out]; rfl, hb1⟩
  · by_cases hr0 : 0 < r
    · have hS : Hid (S = q + 1) := by show S = _; rw [hs.out, decide_eq_true hr0]; rfl
      have k9 : decide (0 < r) = true := decide_eq_true hr0
      have k10 : Q + 1 ≤ 9223372036854775807 := by have := hqc hr0; have := HQ.out; omega
      clear hqc
      go_enter Try.func7, Try.ntmps7
      go_wp2_with (first
        | (go_at_call 17; ((with_reducible refine (CM.out _).mono ?_); rintro e w1 ⟨rfl, rfl⟩))
        | (go_at_call 18; ((with_reducible refine (CD.out _).mono ?_); rintro e w1 ⟨rfl, hb1⟩)))
      go_ret2
      exact ⟨by rw [hS.out, ← HQ.out]; rfl, hb1⟩
    · have hS : Hid (S = q) := by show S = _; rw [hs.out, decide_eq_false hr0]; rfl
      have k9 : decide (0 < r) = false := decide_eq_false hr0
      clear hqc
      go_enter Try.func7, Try.ntmps7
      go_wp2_with (first
        | (go_at_call 17; ((with_reducible refine (CM.out _).mono ?_); rintro e w1 ⟨rfl, rfl⟩))
        | (go_at_call 18; ((with_reducible refine (CD.out _).mono ?_); rintro e w1 ⟨rfl, hb1⟩)))
      go_ret2
      exact ⟨by rw [hS.out, ← HQ.out]; rfl, hb1⟩
theorem mul_max (w : World) : Calls Try.prog 17 #[.int .u64 9223372036854775807, .int .u64 9223372036854775807] w fun e w' => e = .returned (.tuple #[.int .u64 4611686018427387903, .int .u64 1]) ∧ w = w' :=
  (Try.bits_Mul64 9223372036854775807 9223372036854775807 (by decide) (by decide) w).mono fun e w' ⟨h1, h2⟩ => ⟨h1, h2.symm⟩
set_option maxHeartbeats 1000000 in
theorem scale_max (w : World) :
    Calls Try.prog 7 #[.int .i64 9223372036854775807, .int .i64 9223372036854775807, .int .i64 9223372036854775807, .bool false] w fun e w' => e = .returned (.tuple #[.int .i64 9223372036854775807, .int .i64 0]) ∧ w = w' := by
  go_enter Try.func7, Try.ntmps7
  go_wp2_with (first
    | (go_at_call 17; ((with_reducible refine (mul_max _).mono ?_); rintro e w1 ⟨rfl, rfl⟩))
    | (go_at_call 18; ((with_reducible refine (div_max _).mono ?_); rintro e w1 ⟨rfl, rfl⟩)))
  go_ret2
  exact ⟨rfl, rfl⟩
theorem add_23 (w : World) : Calls Try.prog 11 #[.int .i64 2, .int .i64 3] w fun e w' => e = .returned (.tuple #[.int .i64 5, .int .i64 0]) ∧ w = w' := add_any 2 3 (by decide) (by decide) w
theorem add_m1 (w : World) : Calls Try.prog 11 #[.int .i64 9223372036854775807, .int .i64 1] w fun e w' => e = .returned (.tuple #[.int .i64 0, .int .i64 5]) ∧ w = w' := add_any 9223372036854775807 1 (by decide) (by decide) w
theorem scale_732 (w : World) : Calls Try.prog 7 #[.int .i64 7, .int .i64 3, .int .i64 2, .bool true] w fun e w' => e = .returned (.tuple #[.int .i64 11, .int .i64 0]) ∧ Below w.heap.size w w' := scale_any 7 3 2 true (by decide) (by decide) (by decide) (by decide) (by decide) w
set_option maxHeartbeats 1000000 in
theorem awake_any (w : World) : Calls Try.prog 8 #[] w fun e w' => e = .returned (.bool true) ∧ Below w.heap.size w w' := by
  go_enter Try.func8, Try.ntmps8
  go_wp2_with (first
    | (go_at_call 11; ((with_reducible refine (add_23 _).mono ?_); rintro e w1 ⟨rfl, rfl⟩))
    | (go_at_call 11; ((with_reducible refine (add_m1 _).mono ?_); rintro e w2 ⟨rfl, rfl⟩))
    | (go_at_call 7; ((with_reducible refine (scale_732 _).mono ?_); rintro e w3 ⟨rfl, hb3⟩))
    | (go_at_call 7; ((with_reducible refine (scale_max _).mono ?_); rintro e w4 ⟨rfl, rfl⟩)))
  go_ret
  exact ⟨rfl, hb3⟩
end Cal
end Go.Proofs.Ytpkicpmbpeginaa
