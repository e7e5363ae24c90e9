/- The walks of products. -/
import Derived.Test.YtpkicpmbpeginaaCalP
import Derived.Test.YtpkicpmbpeginaaShelf
namespace Go.Proofs.Ytpkicpmbpeginaa
open Go.RowKit
namespace Cal
theorem below2 {w a b : World} (h : Below w.heap.size w a) (h2 : Below a.heap.size a b) : Below w.heap.size w b := h.trans (h2.mono h.size)
/-- How far a number is from 0. -/
def sz (a : Int) : Nat := a.natAbs
theorem sz_neg {a : Int} (h : a < 0) : ((sz a : Nat) : Int) = -a := by unfold sz; omega
theorem sz_pos {a : Int} (h : ¬ a < 0) : ((sz a : Nat) : Int) = a := by unfold sz; omega
theorem w64 (n : Int) : IntKind.u64.wrap n = n % 18446744073709551616 := by simp [IntKind.wrap, IntKind.bits, IntKind.signed]
set_option maxHeartbeats 400000 in
theorem size_any (a : Int) (ha : ok64 a = true) (w : World) :
    Calls Try.prog 19 #[.int .i64 a] w fun e w' => e = .returned (.int .u64 (sz a : Int)) ∧ w = w' := by
  have a1 := ok_iff.1 ha
  have a1l := a1.1
  have a1r := a1.2
  by_cases h : a < 0
  · have e1 : Hid (IntKind.u64.wrap (-IntKind.u64.wrap a) = (sz a : Int)) := by show _ = _; rw [w64, w64, sz_neg h]; omega
    clear ha a1
    go_enter Try.func19, Try.ntmps19
    go_wp2
    go_ret
    exact ⟨by rw [← e1.out]; rfl, rfl⟩
  · have e1 : Hid (a = (sz a : Int)) := (sz_pos h).symm
    clear ha a1
    go_enter Try.func19, Try.ntmps19
    go_wp2
    go_ret
    exact ⟨by rw [← e1.out]; rfl, rfl⟩
set_option maxHeartbeats 400000 in
theorem refSize_any (a : Int) (ha : ok64 a = true) (w : World) :
    Calls Try.prog 20 #[.int .i64 a] w fun e w' => e = .returned (.tuple #[.int .u64 (sz a : Int), .bool (decide (a < 0))]) ∧ w = w' := by
  have a1 := ok_iff.1 ha
  have a1l := a1.1
  have a1r := a1.2
  by_cases h : a < 0
  · have e1 : Hid (-(a + 1) + 1 = (sz a : Int)) := by show _ = _; rw [sz_neg h]; omega
    have e2 := Lib.hid (decide_eq_true h)
    clear ha a1
    go_enter Try.func20, Try.ntmps20
    go_wp2
    go_ret2
    exact ⟨by rw [← e1.out, e2.out]; rfl, rfl⟩
  · have e1 : Hid (a = (sz a : Int)) := (sz_pos h).symm
    have e2 := Lib.hid (decide_eq_false h)
    clear ha a1
    go_enter Try.func20, Try.ntmps20
    go_wp2
    go_ret2
    exact ⟨by rw [← e1.out, e2.out]; rfl, rfl⟩
/-- A product by its size. -/
theorem mul_sz (a b : Int) : a * b = if decide (a < 0) != decide (b < 0) then -((sz a * sz b : Nat) : Int) else ((sz a * sz b : Nat) : Int) := by
  by_cases ha : a < 0 <;> by_cases hb : b < 0
  · have h1 := sz_neg ha
    have h2 := sz_neg hb
    simp only [ha, hb, decide_true, bne_self_eq_false, Bool.false_eq_true, if_false, Int.natCast_mul, h1, h2, Int.neg_mul_neg]
  · have h1 := sz_neg ha
    have h2 := sz_pos hb
    simp only [ha, hb, decide_true, decide_false, Bool.true_bne, Bool.not_false, if_true, Int.natCast_mul, h1, h2, Int.neg_mul, Int.neg_neg]
  · have h1 := sz_pos ha
    have h2 := sz_neg hb
    simp only [ha, hb, decide_true, decide_false, Bool.false_bne, if_true, Int.natCast_mul, h1, h2, Int.mul_neg, Int.neg_neg]
  · have h1 := sz_pos ha
    have h2 := sz_pos hb
    simp only [ha, hb, decide_false, bne_self_eq_false, Bool.false_eq_true, if_false, Int.natCast_mul, h1, h2]
theorem sz_lt {a : Int} (h : ok64 a = true) : sz a ≤ 9223372036854775808 := by have := ok_iff.1 h; unfold sz; omega
set_option maxHeartbeats 1000000 in
theorem mul_same (a b : Int) (ha : ok64 a = true) (hb : ok64 b = true) (x : Bool) (hx : decide (a < 0) = x) (hy : decide (b < 0) = x) (w : World) : R Try.prog 15 a b (a * b) w := by
  unfold R
  have HM := mul_sz a b
  rw [hx, hy] at HM
  obtain ⟨H, hH⟩ : ∃ H : Nat, H = sz a * sz b / 18446744073709551616 := ⟨_, rfl⟩
  obtain ⟨L, hL⟩ : ∃ L : Nat, L = sz a * sz b % 18446744073709551616 := ⟨_, rfl⟩
  obtain ⟨p, hp⟩ : ∃ p : Nat, p = sz a * sz b := ⟨_, rfl⟩
  have C1 := Lib.hid (size_any a ha)
  have C2 := Lib.hid (size_any b hb)
  have C3 : Hid (∀ w : World, Calls Try.prog 17 #[.int .u64 (sz a : Int), .int .u64 (sz b : Int)] w fun e w' => e = .returned (.tuple #[.int .u64 (H : Int), .int .u64 (L : Int)]) ∧ w' = w) := by
    show ∀ w : World, _
    intro w
    have h1 := sz_lt ha
    have h2 := sz_lt hb
    have := Try.bits_Mul64 (sz a) (sz b) (by omega) (by omega) w
    rw [← hH, ← hL] at this
    exact this
  rw [← hp] at HM hH hL
  have hLl : (L : Int) ≤ 18446744073709551615 := by omega
  have hHL : p = H * 18446744073709551616 + L := by omega
  have HM2 : Hid (a * b = (p : Int)) := by show _ = _; rw [HM]; cases x <;> rfl
  have hok : ok64 (a * b) = decide (p ≤ 9223372036854775807) := by rw [HM2.out]; unfold ok64; rw [decide_eq_decide]; omega
  by_cases hp2 : p ≤ 9223372036854775807
  · rw [decide_eq_true hp2] at hok
    have HV : Hid (val (a * b) = (L : Int)) := by show _ = _; rw [val_ok hok, HM2.out]; omega
    have HE := Lib.hid (err_ok hok)
    have d1 : decide (0 < H) = false := decide_eq_false (by omega)
    have d2 : decide ((9223372036854775807 : Int) < (L : Int)) = false := decide_eq_false (by omega)
    have hLs : (L : Int) ≤ 9223372036854775807 := by omega
    clear ha hb HM hok hp hH hL hHL hp2 hLl
    cases x
    all_goals
      go_enter Try.func15, Try.ntmps15
      go_wp2_with (first
        | (go_at_call 19; ((with_reducible refine (C1.out _).mono ?_); rintro e w1 ⟨rfl, rfl⟩))
        | (go_at_call 19; ((with_reducible refine (C2.out _).mono ?_); rintro e w1 ⟨rfl, rfl⟩))
        | (go_at_call 17; ((with_reducible refine (C3.out _).mono ?_); rintro e w1 ⟨rfl, rfl⟩)))
      go_ret2
      exact ⟨by rw [HV.out, HE.out]; rfl, rfl⟩
  · rw [decide_eq_false hp2] at hok
    have HV := Lib.hid (val_no hok)
    have HE := Lib.hid (err_no hok)
    by_cases hH0 : 0 < H
    · have d1 : decide (0 < H) = true := decide_eq_true (by omega)
      clear ha hb HM hok hp hH hL hHL hp2
      cases x
      all_goals
        go_enter Try.func15, Try.ntmps15
        go_wp2_with (first
          | (go_at_call 19; ((with_reducible refine (C1.out _).mono ?_); rintro e w1 ⟨rfl, rfl⟩))
          | (go_at_call 19; ((with_reducible refine (C2.out _).mono ?_); rintro e w1 ⟨rfl, rfl⟩))
          | (go_at_call 17; ((with_reducible refine (C3.out _).mono ?_); rintro e w1 ⟨rfl, rfl⟩)))
        go_ret2
        exact ⟨by rw [HV.out, HE.out]; rfl, rfl⟩
    · have d1 : decide (0 < H) = false := decide_eq_false (by omega)
      have d2 : decide ((9223372036854775807 : Int) < (L : Int)) = true := decide_eq_true (by omega)
      clear ha hb HM hok hp hH hL hHL hp2
      cases x
      all_goals
        go_enter Try.func15, Try.ntmps15
        go_wp2_with (first
          | (go_at_call 19; ((with_reducible refine (C1.out _).mono ?_); rintro e w1 ⟨rfl, rfl⟩))
          | (go_at_call 19; ((with_reducible refine (C2.out _).mono ?_); rintro e w1 ⟨rfl, rfl⟩))
          | (go_at_call 17; ((with_reducible refine (C3.out _).mono ?_); rintro e w1 ⟨rfl, rfl⟩)))
        go_ret2
        exact ⟨by rw [HV.out, HE.out]; rfl, rfl⟩
set_option maxHeartbeats 1000000 in
theorem mul_diff (a b : Int) (ha : ok64 a = true) (hb : ok64 b = true) (x : Bool) (hx : decide (a < 0) = x) (hy : decide (b < 0) = !x) (w : World) : R Try.prog 15 a b (a * b) w := by
  unfold R
  have HM := mul_sz a b
  rw [hx, hy] at HM
  obtain ⟨H, hH⟩ : ∃ H : Nat, H = sz a * sz b / 18446744073709551616 := ⟨_, rfl⟩
  obtain ⟨L, hL⟩ : ∃ L : Nat, L = sz a * sz b % 18446744073709551616 := ⟨_, rfl⟩
  obtain ⟨p, hp⟩ : ∃ p : Nat, p = sz a * sz b := ⟨_, rfl⟩
  have C1 := Lib.hid (size_any a ha)
  have C2 := Lib.hid (size_any b hb)
  have C3 : Hid (∀ w : World, Calls Try.prog 17 #[.int .u64 (sz a : Int), .int .u64 (sz b : Int)] w fun e w' => e = .returned (.tuple #[.int .u64 (H : Int), .int .u64 (L : Int)]) ∧ w' = w) := by
    show ∀ w : World, _
    intro w
    have h1 := sz_lt ha
    have h2 := sz_lt hb
    have := Try.bits_Mul64 (sz a) (sz b) (by omega) (by omega) w
    rw [← hH, ← hL] at this
    exact this
  rw [← hp] at HM hH hL
  have hLl : (L : Int) ≤ 18446744073709551615 := by omega
  have hHL : p = H * 18446744073709551616 + L := by omega
  have HM2 : Hid (a * b = -(p : Int)) := by show _ = _; rw [HM]; cases x <;> rfl
  have hok : ok64 (a * b) = decide (p ≤ 9223372036854775808) := by rw [HM2.out]; unfold ok64; rw [decide_eq_decide]; omega
  by_cases hp2 : p ≤ 9223372036854775808
  · rw [decide_eq_true hp2] at hok
    have HV : Hid (val (a * b) = wrap64 (IntKind.u64.wrap (-(L : Int)))) := by show _ = _; rw [val_ok hok, HM2.out, w64, wrap_eq]; omega
    have HE := Lib.hid (err_ok hok)
    have d1 : decide (0 < H) = false := decide_eq_false (by omega)
    have d2 : decide ((9223372036854775808 : Int) < (L : Int)) = false := decide_eq_false (by omega)
    clear ha hb HM hok hp hH hL hHL hp2
    cases x
    all_goals
      go_enter Try.func15, Try.ntmps15
      go_wp2_with (first
        | (go_at_call 19; ((with_reducible refine (C1.out _).mono ?_); rintro e w1 ⟨rfl, rfl⟩))
        | (go_at_call 19; ((with_reducible refine (C2.out _).mono ?_); rintro e w1 ⟨rfl, rfl⟩))
        | (go_at_call 17; ((with_reducible refine (C3.out _).mono ?_); rintro e w1 ⟨rfl, rfl⟩)))
      go_ret2
      exact ⟨by rw [HV.out, HE.out]; rfl, rfl⟩
  · rw [decide_eq_false hp2] at hok
    have HV := Lib.hid (val_no hok)
    have HE := Lib.hid (err_no hok)
    by_cases hH0 : 0 < H
    · have d1 : decide (0 < H) = true := decide_eq_true (by omega)
      clear ha hb HM hok hp hH hL hHL hp2
      cases x
      all_goals
        go_enter Try.func15, Try.ntmps15
        go_wp2_with (first
          | (go_at_call 19; ((with_reducible refine (C1.out _).mono ?_); rintro e w1 ⟨rfl, rfl⟩))
          | (go_at_call 19; ((with_reducible refine (C2.out _).mono ?_); rintro e w1 ⟨rfl, rfl⟩))
          | (go_at_call 17; ((with_reducible refine (C3.out _).mono ?_); rintro e w1 ⟨rfl, rfl⟩)))
        go_ret2
        exact ⟨by rw [HV.out, HE.out]; rfl, rfl⟩
    · have d1 : decide (0 < H) = false := decide_eq_false (by omega)
      have d2 : decide ((9223372036854775808 : Int) < (L : Int)) = true := decide_eq_true (by omega)
      clear ha hb HM hok hp hH hL hHL hp2
      cases x
      all_goals
        go_enter Try.func15, Try.ntmps15
        go_wp2_with (first
          | (go_at_call 19; ((with_reducible refine (C1.out _).mono ?_); rintro e w1 ⟨rfl, rfl⟩))
          | (go_at_call 19; ((with_reducible refine (C2.out _).mono ?_); rintro e w1 ⟨rfl, rfl⟩))
          | (go_at_call 17; ((with_reducible refine (C3.out _).mono ?_); rintro e w1 ⟨rfl, rfl⟩)))
        go_ret2
        exact ⟨by rw [HV.out, HE.out]; rfl, rfl⟩
theorem mul_any (a b : Int) (ha : ok64 a = true) (hb : ok64 b = true) (w : World) : R Try.prog 15 a b (a * b) w := by
  by_cases h : decide (b < 0) = decide (a < 0)
  · exact mul_same a b ha hb _ rfl h w
  · exact mul_diff a b ha hb _ rfl (by cases h1 : decide (a < 0) <;> cases h2 : decide (b < 0) <;> simp_all) w
end Cal
end Go.Proofs.Ytpkicpmbpeginaa
