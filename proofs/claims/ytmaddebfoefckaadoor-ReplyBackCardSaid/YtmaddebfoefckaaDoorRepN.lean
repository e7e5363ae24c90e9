/- Decimal digits: the document's walk. -/
import Derived.Test.YtmaddebfoefckaaDoorRepV
set_option linter.unusedSimpArgs false
set_option linter.unusedVariables false
namespace Go.Proofs.YtmaddebfoefckaaDoor
open Go.RowKit Go.Great
namespace Rep
open Pen (bs bs_append uintB intB I64 intS uintS doneS)
open Go.Lib (decDigits itoa)
theorem fits {A B : List UInt8} (ha : A.length ≤ 100000) (hb : B.length ≤ 100000) : ¬ 9223372036854775807 < (bs A).size + (bs B).size := by
  rw [Pen.bs_size, Pen.bs_size]
  omega
abbrev NumG (n : Int) : Prop := ∀ W : World, Calls Tryd.prog 30 #[.int .i64 n] W fun e w' => e = .returned (.string (bs (itoa n))) ∧ Below W.heap.size W w'
set_option maxRecDepth 100000 in
theorem num_one (n : Int) (h : 0 ≤ n ∧ n ≤ 9) : NumG n := by
  intro w
  rw [itoa_one h]
  obtain ⟨h0, h9⟩ := h
  have d0 : ¬ n < 0 := by omega
  have d1 : decide (n < 0) = false := decide_eq_false d0
  have d2 : ¬ 9 < n := by omega
  have d3 : decide (9 < n) = false := decide_eq_false d2
  have hv : ((UInt8.ofNat (48 + n.toNat)).toNat : Int) = 48 + n := by rw [dig_byte n.toNat (by omega)]; omega
  have hcv := Pen.back_at (UInt8.ofNat (48 + n.toNat)) (48 + n) hv (w.alloc (.cells #[.int .u8 (48 + n)] 5)) w.heap.size (heap_alloc_new w _)
  clear hv
  generalize UInt8.ofNat (48 + n.toNat) = b at *
  go_enter Tryd.func30, Tryd.ntmps30
  go_wp2
  go_ret
  exact ⟨rfl, below_al (Below.refl _ _) _⟩
set_option maxRecDepth 100000 in
theorem num_more (n : Int) (h : 9 < n) (hi : n ≤ 9223372036854775807) (c1 : NumG (n / 10)) (c2 : NumG (n % 10)) : NumG n := by
  intro w
  have C1 : Hid (NumG (n / 10)) := c1
  have C2 : Hid (NumG (n % 10)) := c2
  have E : Hid (itoa n = itoa (n / 10) ++ itoa (n % 10)) := by
    have := itoa_more h
    rw [Int.tdiv_eq_ediv_of_nonneg (by omega), Int.tmod_eq_emod_of_nonneg (by omega)] at this
    exact this
  have z1 := fits (A := itoa (n / 10)) (B := itoa (n % 10)) (by have := Lib.itoa_length_le (n / 10) (by omega) (by omega); omega) (by have := Lib.itoa_length_le (n % 10) (by omega) (by omega); omega)
  clear c1 c2
  have d0 : ¬ n < 0 := by omega
  have d1 : decide (n < 0) = false := decide_eq_false d0
  have d3 : decide (9 < n) = true := decide_eq_true h
  go_enter Tryd.func30, Tryd.ntmps30
  go_wp2_with (first
    | (go_at_call 30; (with_reducible refine (C1.out _).mono ?_); rintro e w1 ⟨rfl, hb1⟩; have HB1 := Lib.hid hb1; clear hb1)
    | (go_at_call 30; (with_reducible refine (C2.out _).mono ?_); rintro e w2 ⟨rfl, hb2⟩; have HB2 := Lib.hid hb2; clear hb2))
  go_ret
  refine ⟨?_, below2 HB1.out HB2.out⟩
  rw [E.out, ← bs_append]
  rfl
set_option maxRecDepth 100000 in
theorem num_down (n : Int) (h : n ≤ -10) (hi : -9223372036854775808 ≤ n) (c1 : NumG (Int.tdiv n 10)) (c2 : NumG (-(Int.tmod n 10))) : NumG n := by
  intro w
  have C1 : Hid (NumG (Int.tdiv n 10)) := c1
  have C2 : Hid (NumG (-(Int.tmod n 10))) := c2
  have E := Lib.hid (itoa_down h)
  have t0 : -10 < n.tmod 10 ∧ n.tmod 10 ≤ 0 := by
    obtain ⟨u, rfl⟩ : ∃ u : Nat, n = -(u : Int) := ⟨n.natAbs, by omega⟩
    rw [Int.neg_tmod, Int.tmod_eq_emod_of_nonneg (by omega)]
    omega
  have t1 : -1000000000000000000 < n.tdiv 10 ∧ n.tdiv 10 < 0 := by
    obtain ⟨u, rfl⟩ : ∃ u : Nat, n = -(u : Int) := ⟨n.natAbs, by omega⟩
    rw [Int.neg_tdiv, Int.tdiv_eq_ediv_of_nonneg (by omega)]
    omega
  have z1 := fits (A := itoa (n.tdiv 10)) (B := itoa (-(n.tmod 10))) (by have := Lib.itoa_length_le (n.tdiv 10) (by omega) (by omega); omega) (by have := Lib.itoa_length_le (-(n.tmod 10)) (by omega) (by omega); omega)
  obtain ⟨t2, t3⟩ := t0
  have t4 : wrap64 (-n.tmod 10) = -n.tmod 10 := by unfold wrap64; omega
  clear c1 c2 t1
  have h0 : n < 0 := by omega
  have d1 : decide (n < 0) = true := decide_eq_true h0
  have h1 : ¬ -10 < n := by omega
  have d3 : decide (-10 < n) = false := decide_eq_false h1
  go_enter Tryd.func30, Tryd.ntmps30
  go_wp2_with (first
    | (go_at_call 30; (with_reducible refine (C1.out _).mono ?_); rintro e w1 ⟨rfl, hb1⟩; have HB1 := Lib.hid hb1; clear hb1)
    | (go_at_call 30; (with_reducible refine (C2.out _).mono ?_); rintro e w2 ⟨rfl, hb2⟩; have HB2 := Lib.hid hb2; clear hb2))
  go_ret
  refine ⟨?_, below2 HB1.out HB2.out⟩
  rw [E.out, ← bs_append]
  rfl
set_option maxRecDepth 100000 in
theorem num_less (n : Int) (h : -10 < n) (h0 : n < 0) (c1 : NumG (-n)) : NumG n := by
  intro w
  have C1 : Hid (NumG (-n)) := c1
  have E := Lib.hid (itoa_less h0)
  have z1 : ¬ 9223372036854775807 < (ByteArray.mk #[45]).size + (bs (itoa (-n))).size := fits (A := [45]) (B := itoa (-n)) (by simp) (by have := Lib.itoa_length_le (-n) (by omega) (by omega); omega)
  clear c1
  have d1 : decide (n < 0) = true := decide_eq_true h0
  have d3 : decide (-10 < n) = true := decide_eq_true h
  go_enter Tryd.func30, Tryd.ntmps30
  go_wp2_with (go_at_call 30; (with_reducible refine (C1.out _).mono ?_); rintro e w1 ⟨rfl, hb1⟩; have HB1 := Lib.hid hb1; clear hb1)
  go_ret
  refine ⟨?_, HB1.out⟩
  rw [E.out, ← bs_append]
  rfl
theorem num_nat : ∀ (k : Nat) (n : Int), 0 ≤ n → n.toNat ≤ k → n ≤ 9223372036854775807 → NumG n
  | k, n, h0, hk, hi => by
    by_cases h9 : n ≤ 9
    · exact num_one n ⟨h0, h9⟩
    · match k, hk with
      | 0, hk => omega
      | k + 1, hk =>
        have e1 : Int.tdiv n 10 = n / 10 := Int.tdiv_eq_ediv_of_nonneg h0
        have e2 : Int.tmod n 10 = n % 10 := Int.tmod_eq_emod_of_nonneg h0
        exact num_more n (by omega) hi (num_nat k _ (by omega) (by omega) (by omega)) (num_one _ (by omega))
theorem num_neg : ∀ (k : Nat) (n : Int), n < 0 → n.natAbs ≤ k → -9223372036854775808 ≤ n → NumG n
  | k, n, h0, hk, hi => by
    by_cases h9 : -10 < n
    · exact num_less n h9 h0 (num_one _ (by omega))
    · match k, hk with
      | 0, hk => omega
      | k + 1, hk =>
        obtain ⟨t1, t2⟩ := tdiv_in (n := n) (by omega)
        have e2 := Int.tmod_add_mul_tdiv n 10
        have e3 : -10 < Int.tmod n 10 ∧ Int.tmod n 10 ≤ 0 := by
          obtain ⟨u, rfl⟩ : ∃ u : Nat, n = -(u : Int) := ⟨n.natAbs, by omega⟩
          rw [Int.neg_tmod, Int.tmod_eq_emod_of_nonneg (by omega)]
          omega
        exact num_down n (by omega) hi (num_neg k _ t1 (by omega) (by omega)) (num_one _ (by omega))
theorem number_any (n : Int) (h : I64 n) : NumG n := by
  obtain ⟨h1, h2⟩ := h
  by_cases h0 : n < 0
  · exact num_neg n.natAbs n h0 (Nat.le_refl _) h1
  · exact num_nat n.toNat n (by omega) (Nat.le_refl _) h2
end Rep
end Go.Proofs.YtmaddebfoefckaaDoor
