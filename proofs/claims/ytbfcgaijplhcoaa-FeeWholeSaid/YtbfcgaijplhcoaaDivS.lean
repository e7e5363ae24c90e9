/- Scale, for any numbers. -/
import Derived.Test.YtbfcgaijplhcoaaDivA
namespace Go.Proofs.Ytbfcgaijplhcoaa
open Go.RowKit
namespace Div
theorem below2 {w a b : World} (h : Below w.heap.size w a) (h2 : Below a.heap.size a b) : Below w.heap.size w b := h.trans (h2.mono h.size)
set_option maxHeartbeats 400000 in
theorem div_zero_hi (lo y : Nat) (hl : lo < 18446744073709551616) (hy : y < 18446744073709551616) (h0 : 0 < y) (w : World) :
    Calls Try.prog 22 #[.int .u64 0, .int .u64 (lo : Int), .int .u64 (y : Int)] w fun e w' => e = .returned (.tuple #[.int .u64 ((lo / y : Nat) : Int), .int .u64 ((lo % y : Nat) : Int)]) ∧ Below w.heap.size w w' := by
  have h1 : ((y : Int) == 0) = false := beq_eq_false_iff_ne.2 (by omega)
  have h2 : ¬ (y : Int) ≤ 0 := by omega
  have h3 : (lo : Int) ≤ 18446744073709551615 := by omega
  have h4 : (1 : Int) ≤ (y : Int) := by omega
  have hw : Hid (IntKind.u64.wrap ((lo : Int) / (y : Int)) = (lo : Int) / (y : Int)) := by
    show _ = _
    rw [w64, show (lo : Int) / (y : Int) = ((lo / y : Nat) : Int) from (Int.natCast_ediv lo y).symm]
    have := Nat.div_le_self lo y
    generalize lo / y = q at *
    omega
  clear hl hy h0
  go_enter Try.func22, Try.ntmps22
  go_wp2
  go_region
  go_wp2
  go_ret2
  exact ⟨by rw [Int.natCast_ediv, Int.natCast_emod]; exact congrArg (fun q => Ending.returned (.tuple #[.int .u64 q, .int .u64 ((lo : Int) % (y : Int))])) hw.out, (Below.refl _ _).drew⟩
theorem div_any (hi lo y : Nat) (hh : hi < y) (hy : y < 18446744073709551616) (hlo : lo < 18446744073709551616) (w : World) :
    Calls Try.prog 22 #[.int .u64 (hi : Int), .int .u64 (lo : Int), .int .u64 (y : Int)] w fun e w' => e = .returned (.tuple #[.int .u64 (((hi * 18446744073709551616 + lo) / y : Nat) : Int), .int .u64 (((hi * 18446744073709551616 + lo) % y : Nat) : Int)]) ∧ Below w.heap.size w w' := by
  by_cases h0 : 0 < hi
  · exact (div_big hi lo y hh h0 hy hlo w).mono fun e w' ⟨a, b⟩ => ⟨a, b ▸ Below.refl _ _⟩
  · have : hi = 0 := by omega
    subst this
    rw [Nat.zero_mul, Nat.zero_add]
    exact div_zero_hi lo y hlo hy (by omega) w
/-- A number times another one, by a third; rounded up, or down. -/
def scl (a b c : Nat) (up : Bool) : Nat := a * b / c + if up && decide (0 < a * b % c) then 1 else 0
def sV (a b c : Nat) (up : Bool) : Int := if scl a b c up ≤ 9223372036854775807 then (scl a b c up : Int) else 0
def sE (a b c : Nat) (up : Bool) : Int := if scl a b c up ≤ 9223372036854775807 then 0 else 5
theorem sV_ok {a b c : Nat} {up : Bool} (h : scl a b c up ≤ 9223372036854775807) : sV a b c up = (scl a b c up : Int) := if_pos h
theorem sE_ok {a b c : Nat} {up : Bool} (h : scl a b c up ≤ 9223372036854775807) : sE a b c up = 0 := if_pos h
theorem sV_no {a b c : Nat} {up : Bool} (h : ¬ scl a b c up ≤ 9223372036854775807) : sV a b c up = 0 := if_neg h
theorem sE_no {a b c : Nat} {up : Bool} (h : ¬ scl a b c up ≤ 9223372036854775807) : sE a b c up = 5 := if_neg h
set_option maxHeartbeats 1000000 in
/-- The walk of Scale, of what its callees answer. -/
theorem scale_core (a b c hi lo q r : Int) (up : Bool) (ka : ¬ a < 0) (kb : ¬ b < 0) (kc : ¬ c < 1) (kw : IntKind.u64.wrap a = a) (kw2 : IntKind.u64.wrap b = b) (kw3 : IntKind.u64.wrap c = c)
    (CM : ∀ w : World, Calls Try.prog 21 #[.int .u64 a, .int .u64 b] w fun e w' => e = .returned (.tuple #[.int .u64 hi, .int .u64 lo]) ∧ w = w')
    (hh : ¬ c ≤ hi)
    (CD : ∀ w : World, Calls Try.prog 22 #[.int .u64 hi, .int .u64 lo, .int .u64 c] w fun e w' => e = .returned (.tuple #[.int .u64 q, .int .u64 r]) ∧ Below w.heap.size w w')
    (q1 V E : Int) (hq1 : IntKind.u64.wrap (q + 1) = q1)
    (h1 : up = false ∨ ¬ 0 < r → (9223372036854775807 < q → V = 0 ∧ E = 5) ∧ (¬ 9223372036854775807 < q → V = wrap64 q ∧ E = 0))
    (h2 : up = true → 0 < r → (9223372036854775807 < q → V = 0 ∧ E = 5) ∧ (¬ 9223372036854775807 < q → (9223372036854775807 < q1 → V = 0 ∧ E = 5) ∧ (¬ 9223372036854775807 < q1 → V = wrap64 q1 ∧ E = 0))) (w : World) :
    Calls Try.prog 27 #[.int .i64 a, .int .i64 b, .int .i64 c, .bool up] w fun e w' => e = .returned (.tuple #[.int .i64 V, .int .i64 E]) ∧ Below w.heap.size w w' := by
  replace CM := Lib.hid CM
  replace CD := Lib.hid CD
  have da : decide (a < 0) = false := decide_eq_false ka
  have db : decide (b < 0) = false := decide_eq_false kb
  have dc : decide (c < 1) = false := decide_eq_false kc
  have dh : decide (c ≤ hi) = false := decide_eq_false hh
  by_cases hr : 0 < r
  · cases up
    · obtain ⟨g1, g2⟩ := h1 (.inl rfl)
      clear h1 h2
      have dr : decide (0 < r) = true := decide_eq_true hr
      by_cases hq : 9223372036854775807 < q
      · obtain ⟨rfl, rfl⟩ := g1 hq
        clear g2
        have dq : decide (9223372036854775807 < q) = true := decide_eq_true hq
        go_enter Try.func27, Try.ntmps27
        go_wp2_with (first
          | (go_at_call 21; ((with_reducible refine (CM.out _).mono ?_); rintro e w1 ⟨rfl, rfl⟩))
          | (go_at_call 22; ((with_reducible refine (CD.out _).mono ?_); rintro e w1 ⟨rfl, hb1⟩)))
        go_ret2
        exact ⟨rfl, hb1⟩
      · obtain ⟨rfl, rfl⟩ := g2 hq
        clear g1
        have dq : decide (9223372036854775807 < q) = false := decide_eq_false hq
        go_enter Try.func27, Try.ntmps27
        go_wp2_with (first
          | (go_at_call 21; ((with_reducible refine (CM.out _).mono ?_); rintro e w1 ⟨rfl, rfl⟩))
          | (go_at_call 22; ((with_reducible refine (CD.out _).mono ?_); rintro e w1 ⟨rfl, hb1⟩)))
        go_ret2
        exact ⟨rfl, hb1⟩
    · obtain ⟨g1, g2⟩ := h2 rfl hr
      clear h1 h2
      have dr : decide (0 < r) = true := decide_eq_true hr
      by_cases hq : 9223372036854775807 < q
      · obtain ⟨rfl, rfl⟩ := g1 hq
        clear g2
        have dq : decide (9223372036854775807 < q) = true := decide_eq_true hq
        have dq2 : decide (q ≤ 9223372036854775807) = false := decide_eq_false (by omega)
        go_enter Try.func27, Try.ntmps27
        go_wp2_with (first
          | (go_at_call 21; ((with_reducible refine (CM.out _).mono ?_); rintro e w1 ⟨rfl, rfl⟩))
          | (go_at_call 22; ((with_reducible refine (CD.out _).mono ?_); rintro e w1 ⟨rfl, hb1⟩)))
        go_ret2
        exact ⟨rfl, hb1⟩
      · obtain ⟨g3, g4⟩ := g2 hq
        clear g1 g2
        have dq : decide (9223372036854775807 < q) = false := decide_eq_false hq
        have dq2 : decide (q ≤ 9223372036854775807) = true := decide_eq_true (by omega)
        by_cases hq2 : 9223372036854775807 < q1
        · obtain ⟨rfl, rfl⟩ := g3 hq2
          clear g4
          have dq3 : decide (9223372036854775807 < q1) = true := decide_eq_true hq2
          go_enter Try.func27, Try.ntmps27
          go_wp2_with (first
            | (go_at_call 21; ((with_reducible refine (CM.out _).mono ?_); rintro e w1 ⟨rfl, rfl⟩))
            | (go_at_call 22; ((with_reducible refine (CD.out _).mono ?_); rintro e w1 ⟨rfl, hb1⟩)))
          go_ret2
          exact ⟨rfl, hb1⟩
        · obtain ⟨rfl, rfl⟩ := g4 hq2
          clear g3
          have dq3 : decide (9223372036854775807 < q1) = false := decide_eq_false hq2
          go_enter Try.func27, Try.ntmps27
          go_wp2_with (first
            | (go_at_call 21; ((with_reducible refine (CM.out _).mono ?_); rintro e w1 ⟨rfl, rfl⟩))
            | (go_at_call 22; ((with_reducible refine (CD.out _).mono ?_); rintro e w1 ⟨rfl, hb1⟩)))
          go_ret2
          exact ⟨rfl, hb1⟩
  · obtain ⟨g1, g2⟩ := h1 (.inr hr)
    clear h1 h2
    have dr : decide (0 < r) = false := decide_eq_false hr
    by_cases hq : 9223372036854775807 < q
    · obtain ⟨rfl, rfl⟩ := g1 hq
      clear g2
      have dq : decide (9223372036854775807 < q) = true := decide_eq_true hq
      cases up
      all_goals
        go_enter Try.func27, Try.ntmps27
        go_wp2_with (first
          | (go_at_call 21; ((with_reducible refine (CM.out _).mono ?_); rintro e w1 ⟨rfl, rfl⟩))
          | (go_at_call 22; ((with_reducible refine (CD.out _).mono ?_); rintro e w1 ⟨rfl, hb1⟩)))
        go_ret2
        exact ⟨rfl, hb1⟩
    · obtain ⟨rfl, rfl⟩ := g2 hq
      clear g1
      have dq : decide (9223372036854775807 < q) = false := decide_eq_false hq
      cases up
      all_goals
        go_enter Try.func27, Try.ntmps27
        go_wp2_with (first
          | (go_at_call 21; ((with_reducible refine (CM.out _).mono ?_); rintro e w1 ⟨rfl, rfl⟩))
          | (go_at_call 22; ((with_reducible refine (CD.out _).mono ?_); rintro e w1 ⟨rfl, hb1⟩)))
        go_ret2
        exact ⟨rfl, hb1⟩
end Div
end Go.Proofs.Ytbfcgaijplhcoaa
