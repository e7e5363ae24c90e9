/- The walks of the reference's products. -/
import Derived.Test.YtpkicpmbpeginaaCalM
namespace Go.Proofs.Ytpkicpmbpeginaa
open Go.RowKit
namespace Cal
set_option maxHeartbeats 1000000 in
theorem refMul_same (a b : Int) (ha : ok64 a = true) (hb : ok64 b = true) (x : Bool) (hx : decide (a < 0) = x) (hy : decide (b < 0) = x) (w : World) : R Try.prog 16 a b (a * b) w := by
  unfold R
  have HM := mul_sz a b
  rw [hx, hy] at HM
  have S1 := Lib.hid (refSize_any a ha)
  have S2 := Lib.hid (refSize_any b hb)
  have l1 := sz_lt ha
  have l2 := sz_lt hb
  generalize sz a = X at *
  generalize sz b = Y at *
  obtain ⟨p, hp⟩ : ∃ p : Nat, p = X * Y := ⟨_, rfl⟩
  rw [← hp] at HM
  have HM2 : Hid (a * b = (p : Int)) := by show _ = _; rw [HM]; cases x <;> rfl
  have hok : ok64 (a * b) = decide (p ≤ 9223372036854775807) := by rw [HM2.out]; unfold ok64; rw [decide_eq_decide]; omega
  by_cases hX : X = 0
  · have hp0 : p = 0 := by rw [hp, hX, Nat.zero_mul]
    rw [decide_eq_true (by omega)] at hok
    have HV : Hid (val (a * b) = 0) := by show _ = _; rw [val_ok hok, HM2.out, hp0]; rfl
    have HE := Lib.hid (err_ok hok)
    clear HM hok hp hp0 l1 l2
    subst hX
    cases x
    all_goals
      go_enter Try.func16, Try.ntmps16
      go_wp2_with (first
        | (go_at_call 20; ((with_reducible refine (S1.out _).mono ?_); rintro e w1 ⟨rfl, rfl⟩))
        | (go_at_call 20; ((with_reducible refine (S2.out _).mono ?_); rintro e w1 ⟨rfl, rfl⟩)))
      go_ret2
      exact ⟨by rw [HV.out, HE.out]; rfl, rfl⟩
  by_cases hY : Y = 0
  · have hp0 : p = 0 := by rw [hp, hY, Nat.mul_zero]
    rw [decide_eq_true (by omega)] at hok
    have HV : Hid (val (a * b) = 0) := by show _ = _; rw [val_ok hok, HM2.out, hp0]; rfl
    have HE := Lib.hid (err_ok hok)
    have dX : ((X : Int) == 0) = false := beq_eq_false_iff_ne.2 (by omega)
    clear HM hok hp hp0 l1 l2 hX
    subst hY
    cases x
    all_goals
      go_enter Try.func16, Try.ntmps16
      go_wp2_with (first
        | (go_at_call 20; ((with_reducible refine (S1.out _).mono ?_); rintro e w1 ⟨rfl, rfl⟩))
        | (go_at_call 20; ((with_reducible refine (S2.out _).mono ?_); rintro e w1 ⟨rfl, rfl⟩)))
      go_ret2
      exact ⟨by rw [HV.out, HE.out]; rfl, rfl⟩
  have dX : ((X : Int) == 0) = false := beq_eq_false_iff_ne.2 (by omega)
  have dY : ((Y : Int) == 0) = false := beq_eq_false_iff_ne.2 (by omega)
  have hdiv : (9223372036854775808 / Y < X) ↔ 9223372036854775808 < p := by rw [hp]; exact Nat.div_lt_iff_lt_mul (by omega)
  have hY0 : 0 < Y := by omega
  have hq : (9223372036854775808 : Int) / (Y : Int) = ((9223372036854775808 / Y : Nat) : Int) := by rw [Int.natCast_ediv]; rfl
  have hw : IntKind.u64.wrap ((X : Int) * (Y : Int)) = (p : Int) % 18446744073709551616 := by rw [w64, hp]; simp
  by_cases hbig : 9223372036854775808 < p
  · rw [decide_eq_false (by omega)] at hok
    have HV := Lib.hid (val_no hok)
    have HE := Lib.hid (err_no hok)
    have hd := hdiv.2 hbig
    have d1 : (9223372036854775808 : Int) / (Y : Int) < (X : Int) := by rw [hq]; exact Int.ofNat_lt.2 hd
    clear hq HM hok hp hdiv hbig hd hX hY hw
    cases x
    all_goals
      go_enter Try.func16, Try.ntmps16
      go_wp2_with (first
        | (go_at_call 20; ((with_reducible refine (S1.out _).mono ?_); rintro e w1 ⟨rfl, rfl⟩))
        | (go_at_call 20; ((with_reducible refine (S2.out _).mono ?_); rintro e w1 ⟨rfl, rfl⟩)))
      go_ret2
      exact ⟨by rw [HV.out, HE.out]; rfl, rfl⟩
  have hd : ¬ (9223372036854775808 / Y < X) := fun h => hbig (hdiv.1 h)
  have d1 : ¬ (9223372036854775808 : Int) / (Y : Int) < (X : Int) := by rw [hq]; exact fun h => hd (Int.ofNat_lt.1 h)
  have hw2 : IntKind.u64.wrap ((X : Int) * (Y : Int)) = (p : Int) := by rw [hw]; omega
  have hpl : (p : Int) ≤ 9223372036854775808 := by omega
  by_cases he : p = 9223372036854775808
  · rw [decide_eq_false (by omega)] at hok
    have HV := Lib.hid (val_no hok)
    have HE := Lib.hid (err_no hok)
    have d2 : ((p : Int) == 9223372036854775808) = true := by rw [he]; rfl
    clear hq HM hok hp hdiv hd hX hY hw hbig he
    cases x
    all_goals
      go_enter Try.func16, Try.ntmps16
      go_wp2_with (first
        | (go_at_call 20; ((with_reducible refine (S1.out _).mono ?_); rintro e w1 ⟨rfl, rfl⟩))
        | (go_at_call 20; ((with_reducible refine (S2.out _).mono ?_); rintro e w1 ⟨rfl, rfl⟩)))
      go_ret2
      exact ⟨by rw [HV.out, HE.out]; rfl, rfl⟩
  · rw [decide_eq_true (by omega)] at hok
    have HV : Hid (val (a * b) = (p : Int)) := by show _ = _; rw [val_ok hok, HM2.out]
    have HE := Lib.hid (err_ok hok)
    have d2 : ((p : Int) == 9223372036854775808) = false := beq_eq_false_iff_ne.2 (by omega)
    have hpl2 : (p : Int) ≤ 9223372036854775807 := by omega
    clear hq HM hok hp hdiv hd hX hY hw hbig he hpl
    cases x
    all_goals
      go_enter Try.func16, Try.ntmps16
      go_wp2_with (first
        | (go_at_call 20; ((with_reducible refine (S1.out _).mono ?_); rintro e w1 ⟨rfl, rfl⟩))
        | (go_at_call 20; ((with_reducible refine (S2.out _).mono ?_); rintro e w1 ⟨rfl, rfl⟩)))
      go_ret2
      exact ⟨by rw [HV.out, HE.out]; rfl, rfl⟩
set_option maxHeartbeats 1000000 in
theorem refMul_diff (a b : Int) (ha : ok64 a = true) (hb : ok64 b = true) (x : Bool) (hx : decide (a < 0) = x) (hy : decide (b < 0) = !x) (w : World) : R Try.prog 16 a b (a * b) w := by
  unfold R
  have HM := mul_sz a b
  rw [hx, hy] at HM
  have S1 := Lib.hid (refSize_any a ha)
  have S2 := Lib.hid (refSize_any b hb)
  have l1 := sz_lt ha
  have l2 := sz_lt hb
  generalize sz a = X at *
  generalize sz b = Y at *
  obtain ⟨p, hp⟩ : ∃ p : Nat, p = X * Y := ⟨_, rfl⟩
  rw [← hp] at HM
  have HM2 : Hid (a * b = -(p : Int)) := by show _ = _; rw [HM]; cases x <;> rfl
  have hok : ok64 (a * b) = decide (p ≤ 9223372036854775808) := by rw [HM2.out]; unfold ok64; rw [decide_eq_decide]; omega
  by_cases hX : X = 0
  · have hp0 : p = 0 := by rw [hp, hX, Nat.zero_mul]
    rw [decide_eq_true (by omega)] at hok
    have HV : Hid (val (a * b) = 0) := by show _ = _; rw [val_ok hok, HM2.out, hp0]; rfl
    have HE := Lib.hid (err_ok hok)
    clear HM hok hp hp0 l1 l2
    subst hX
    cases x
    all_goals
      go_enter Try.func16, Try.ntmps16
      go_wp2_with (first
        | (go_at_call 20; ((with_reducible refine (S1.out _).mono ?_); rintro e w1 ⟨rfl, rfl⟩))
        | (go_at_call 20; ((with_reducible refine (S2.out _).mono ?_); rintro e w1 ⟨rfl, rfl⟩)))
      go_ret2
      exact ⟨by rw [HV.out, HE.out]; rfl, rfl⟩
  by_cases hY : Y = 0
  · have hp0 : p = 0 := by rw [hp, hY, Nat.mul_zero]
    rw [decide_eq_true (by omega)] at hok
    have HV : Hid (val (a * b) = 0) := by show _ = _; rw [val_ok hok, HM2.out, hp0]; rfl
    have HE := Lib.hid (err_ok hok)
    have dX : ((X : Int) == 0) = false := beq_eq_false_iff_ne.2 (by omega)
    clear HM hok hp hp0 l1 l2 hX
    subst hY
    cases x
    all_goals
      go_enter Try.func16, Try.ntmps16
      go_wp2_with (first
        | (go_at_call 20; ((with_reducible refine (S1.out _).mono ?_); rintro e w1 ⟨rfl, rfl⟩))
        | (go_at_call 20; ((with_reducible refine (S2.out _).mono ?_); rintro e w1 ⟨rfl, rfl⟩)))
      go_ret2
      exact ⟨by rw [HV.out, HE.out]; rfl, rfl⟩
  have dX : ((X : Int) == 0) = false := beq_eq_false_iff_ne.2 (by omega)
  have dY : ((Y : Int) == 0) = false := beq_eq_false_iff_ne.2 (by omega)
  have hdiv : (9223372036854775808 / Y < X) ↔ 9223372036854775808 < p := by rw [hp]; exact Nat.div_lt_iff_lt_mul (by omega)
  have hY0 : 0 < Y := by omega
  have hq : (9223372036854775808 : Int) / (Y : Int) = ((9223372036854775808 / Y : Nat) : Int) := by rw [Int.natCast_ediv]; rfl
  have hw : IntKind.u64.wrap ((X : Int) * (Y : Int)) = (p : Int) % 18446744073709551616 := by rw [w64, hp]; simp
  by_cases hbig : 9223372036854775808 < p
  · rw [decide_eq_false (by omega)] at hok
    have HV := Lib.hid (val_no hok)
    have HE := Lib.hid (err_no hok)
    have hd := hdiv.2 hbig
    have d1 : (9223372036854775808 : Int) / (Y : Int) < (X : Int) := by rw [hq]; exact Int.ofNat_lt.2 hd
    clear hq HM hok hp hdiv hbig hd hX hY hw
    cases x
    all_goals
      go_enter Try.func16, Try.ntmps16
      go_wp2_with (first
        | (go_at_call 20; ((with_reducible refine (S1.out _).mono ?_); rintro e w1 ⟨rfl, rfl⟩))
        | (go_at_call 20; ((with_reducible refine (S2.out _).mono ?_); rintro e w1 ⟨rfl, rfl⟩)))
      go_ret2
      exact ⟨by rw [HV.out, HE.out]; rfl, rfl⟩
  have hd : ¬ (9223372036854775808 / Y < X) := fun h => hbig (hdiv.1 h)
  have d1 : ¬ (9223372036854775808 : Int) / (Y : Int) < (X : Int) := by rw [hq]; exact fun h => hd (Int.ofNat_lt.1 h)
  have hw2 : IntKind.u64.wrap ((X : Int) * (Y : Int)) = (p : Int) := by rw [hw]; omega
  have hpl : (p : Int) ≤ 9223372036854775808 := by omega
  by_cases he : p = 9223372036854775808
  · rw [decide_eq_true (by omega)] at hok
    have HV : Hid (val (a * b) = -9223372036854775808) := by show _ = _; rw [val_ok hok, HM2.out, he]; rfl
    have HE := Lib.hid (err_ok hok)
    have d2 : ((p : Int) == 9223372036854775808) = true := by rw [he]; rfl
    clear hq HM hok hp hdiv hd hX hY hw hbig he
    cases x
    all_goals
      go_enter Try.func16, Try.ntmps16
      go_wp2_with (first
        | (go_at_call 20; ((with_reducible refine (S1.out _).mono ?_); rintro e w1 ⟨rfl, rfl⟩))
        | (go_at_call 20; ((with_reducible refine (S2.out _).mono ?_); rintro e w1 ⟨rfl, rfl⟩)))
      go_ret2
      exact ⟨by rw [HV.out, HE.out]; rfl, rfl⟩
  · rw [decide_eq_true (by omega)] at hok
    have HV : Hid (val (a * b) = -(p : Int)) := by show _ = _; rw [val_ok hok, HM2.out]
    have HE := Lib.hid (err_ok hok)
    have d2 : ((p : Int) == 9223372036854775808) = false := beq_eq_false_iff_ne.2 (by omega)
    have hpl2 : (p : Int) ≤ 9223372036854775807 := by omega
    clear hq HM hok hp hdiv hd hX hY hw hbig he hpl
    cases x
    all_goals
      go_enter Try.func16, Try.ntmps16
      go_wp2_with (first
        | (go_at_call 20; ((with_reducible refine (S1.out _).mono ?_); rintro e w1 ⟨rfl, rfl⟩))
        | (go_at_call 20; ((with_reducible refine (S2.out _).mono ?_); rintro e w1 ⟨rfl, rfl⟩)))
      go_ret2
      exact ⟨by rw [HV.out, HE.out]; rfl, rfl⟩
theorem refMul_any (a b : Int) (ha : ok64 a = true) (hb : ok64 b = true) (w : World) : R Try.prog 16 a b (a * b) w := by
  by_cases h : decide (b < 0) = decide (a < 0)
  · exact refMul_same a b ha hb _ rfl h w
  · exact refMul_diff a b ha hb _ rfl (by cases h1 : decide (a < 0) <;> cases h2 : decide (b < 0) <;> simp_all) w
end Cal
end Go.Proofs.Ytpkicpmbpeginaa
