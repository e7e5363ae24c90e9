/- Numbers that do not go round: plain laws, and the walks of sums and differences. -/
import Derived.Test.YtpkicpmbpeginaaChecked
import Derived.WalkKit
import Derived.WalkLawsBesides
import Derived.Lib.Hide
import Derived.OpenShut
namespace Go.Proofs.Ytpkicpmbpeginaa
open Go.RowKit
namespace Cal
def ok64 (n : Int) : Bool := decide (-9223372036854775808 ≤ n ∧ n ≤ 9223372036854775807)
/-- The number, or 0 where it is too great. -/
def val (n : Int) : Int := if ok64 n then n else 0
def err (n : Int) : Int := if ok64 n then 0 else 5
theorem val_ok {n : Int} (h : ok64 n = true) : val n = n := by unfold val; rw [h]; rfl
theorem val_no {n : Int} (h : ok64 n = false) : val n = 0 := by unfold val; rw [h]; rfl
theorem err_ok {n : Int} (h : ok64 n = true) : err n = 0 := by unfold err; rw [h]; rfl
theorem err_no {n : Int} (h : ok64 n = false) : err n = 5 := by unfold err; rw [h]; rfl
theorem ok_iff {n : Int} : ok64 n = true ↔ -9223372036854775808 ≤ n ∧ n ≤ 9223372036854775807 := by simp [ok64]
theorem no_iff {n : Int} : ok64 n = false ↔ ¬ (-9223372036854775808 ≤ n ∧ n ≤ 9223372036854775807) := decide_eq_false_iff_not
theorem wrap_eq (n : Int) : wrap64 n = (n + 9223372036854775808) % 18446744073709551616 - 9223372036854775808 := by unfold wrap64; rfl
theorem wrap_hi {n : Int} (h1 : 9223372036854775807 < n) (h2 : n ≤ 18446744073709551615) : wrap64 n < 0 := by rw [wrap_eq]; omega
theorem wrap_lo {n : Int} (h1 : n < -9223372036854775808) (h2 : -18446744073709551616 ≤ n) : 0 ≤ wrap64 n := by rw [wrap_eq]; omega
theorem wrap_in {n : Int} (h : ok64 n = true) : wrap64 n = n := by have := ok_iff.1 h; rw [wrap_eq]; omega
def R (P : Program) (f : FuncId) (a b n : Int) (w : World) : Prop := Calls P f #[.int .i64 a, .int .i64 b] w fun e w' => e = .returned (.tuple #[.int .i64 (val n), .int .i64 (err n)]) ∧ w = w'
set_option maxHeartbeats 400000 in
theorem add_any (a b : Int) (ha : ok64 a = true) (hb : ok64 b = true) (w : World) : R Try.prog 11 a b (a + b) w := by
  unfold R
  have a1 := ok_iff.1 ha
  have b1 := ok_iff.1 hb
  obtain ⟨s, hs⟩ : ∃ s : Int, wrap64 (a + b) = s := ⟨_, rfl⟩
  cases hok : ok64 (a + b)
  · have HV := Lib.hid (val_no hok)
    have HE := Lib.hid (err_no hok)
    have h0 := no_iff.1 hok
    by_cases h1 : 9223372036854775807 < a + b
    · have hs0 := wrap_hi h1 (by omega)
      rw [hs] at hs0
      have da : decide (0 ≤ a) = true := decide_eq_true (by omega)
      have db : decide (0 ≤ b) = true := decide_eq_true (by omega)
      have ds : decide (0 ≤ s) = false := decide_eq_false (by omega)
      clear ha hb a1 b1 hok h0 h1 hs0
      go_enter Try.func11, Try.ntmps11
      go_wp2
      go_ret2
      exact ⟨by rw [HV.out, HE.out]; rfl, rfl⟩
    · have hs0 := wrap_lo (n := a + b) (by omega) (by omega)
      rw [hs] at hs0
      have da : decide (0 ≤ a) = false := decide_eq_false (by omega)
      have db : decide (0 ≤ b) = false := decide_eq_false (by omega)
      have ds : decide (0 ≤ s) = true := decide_eq_true (by omega)
      clear ha hb a1 b1 hok h0 h1 hs0
      go_enter Try.func11, Try.ntmps11
      go_wp2
      go_ret2
      exact ⟨by rw [HV.out, HE.out]; rfl, rfl⟩
  · have HV := Lib.hid (val_ok hok)
    have HE := Lib.hid (err_ok hok)
    have hs1 : Hid (s = a + b) := by show s = _; rw [← hs, wrap_in hok]
    have HS := hs1.out
    have hws : wrap64 s = s := by rw [HS, wrap_in hok]
    by_cases h1 : 0 ≤ a <;> by_cases h2 : 0 ≤ b
    all_goals
      have da : decide (0 ≤ a) = _ := (by first | exact decide_eq_true h1 | exact decide_eq_false h1)
      have db : decide (0 ≤ b) = _ := (by first | exact decide_eq_true h2 | exact decide_eq_false h2)
    · have ds : decide (0 ≤ s) = true := decide_eq_true (by omega)
      clear ha hb a1 b1 hok h1 h2 HS
      go_enter Try.func11, Try.ntmps11
      go_wp2
      go_ret2
      exact ⟨by rw [HV.out, HE.out, ← hs1.out]; first | rfl | exact congrArg (fun x => Ending.returned (.tuple #[.int .i64 x, .int .i64 0])) hws, rfl⟩
    · clear ha hb a1 b1 hok h1 h2 HS
      go_enter Try.func11, Try.ntmps11
      go_wp2
      go_ret2
      exact ⟨by rw [HV.out, HE.out, ← hs1.out]; first | rfl | exact congrArg (fun x => Ending.returned (.tuple #[.int .i64 x, .int .i64 0])) hws, rfl⟩
    · clear ha hb a1 b1 hok h1 h2 HS
      go_enter Try.func11, Try.ntmps11
      go_wp2
      go_ret2
      exact ⟨by rw [HV.out, HE.out, ← hs1.out]; first | rfl | exact congrArg (fun x => Ending.returned (.tuple #[.int .i64 x, .int .i64 0])) hws, rfl⟩
    · have ds : decide (0 ≤ s) = false := decide_eq_false (by omega)
      clear ha hb a1 b1 hok h1 h2 HS
      go_enter Try.func11, Try.ntmps11
      go_wp2
      go_ret2
      exact ⟨by rw [HV.out, HE.out, ← hs1.out]; first | rfl | exact congrArg (fun x => Ending.returned (.tuple #[.int .i64 x, .int .i64 0])) hws, rfl⟩
set_option maxHeartbeats 400000 in
theorem sub_any (a b : Int) (ha : ok64 a = true) (hb : ok64 b = true) (w : World) : R Try.prog 13 a b (a - b) w := by
  unfold R
  have a1 := ok_iff.1 ha
  have b1 := ok_iff.1 hb
  obtain ⟨s, hs⟩ : ∃ s : Int, wrap64 (a - b) = s := ⟨_, rfl⟩
  cases hok : ok64 (a - b)
  · have HV := Lib.hid (val_no hok)
    have HE := Lib.hid (err_no hok)
    have h0 := no_iff.1 hok
    by_cases h1 : 9223372036854775807 < a - b
    · have hs0 := wrap_hi h1 (by omega)
      rw [hs] at hs0
      have da : decide (0 ≤ a) = true := decide_eq_true (by omega)
      have db : decide (0 ≤ b) = false := decide_eq_false (by omega)
      have ds : decide (0 ≤ s) = false := decide_eq_false (by omega)
      clear ha hb a1 b1 hok h0 h1 hs0
      go_enter Try.func13, Try.ntmps13
      go_wp2
      go_ret2
      exact ⟨by rw [HV.out, HE.out]; rfl, rfl⟩
    · have hs0 := wrap_lo (n := a - b) (by omega) (by omega)
      rw [hs] at hs0
      have da : decide (0 ≤ a) = false := decide_eq_false (by omega)
      have db : decide (0 ≤ b) = true := decide_eq_true (by omega)
      have ds : decide (0 ≤ s) = true := decide_eq_true (by omega)
      clear ha hb a1 b1 hok h0 h1 hs0
      go_enter Try.func13, Try.ntmps13
      go_wp2
      go_ret2
      exact ⟨by rw [HV.out, HE.out]; rfl, rfl⟩
  · have HV := Lib.hid (val_ok hok)
    have HE := Lib.hid (err_ok hok)
    have hs1 : Hid (s = a - b) := by show s = _; rw [← hs, wrap_in hok]
    have HS := hs1.out
    have hws : wrap64 s = s := by rw [HS, wrap_in hok]
    by_cases h1 : 0 ≤ a <;> by_cases h2 : 0 ≤ b
    all_goals
      have da : decide (0 ≤ a) = _ := (by first | exact decide_eq_true h1 | exact decide_eq_false h1)
      have db : decide (0 ≤ b) = _ := (by first | exact decide_eq_true h2 | exact decide_eq_false h2)
    · clear ha hb a1 b1 hok h1 h2 HS
      go_enter Try.func13, Try.ntmps13
      go_wp2
      go_ret2
      exact ⟨by rw [HV.out, HE.out, ← hs1.out]; first | rfl | exact congrArg (fun x => Ending.returned (.tuple #[.int .i64 x, .int .i64 0])) hws, rfl⟩
    · have ds : decide (0 ≤ s) = true := decide_eq_true (by omega)
      clear ha hb a1 b1 hok h1 h2 HS
      go_enter Try.func13, Try.ntmps13
      go_wp2
      go_ret2
      exact ⟨by rw [HV.out, HE.out, ← hs1.out]; first | rfl | exact congrArg (fun x => Ending.returned (.tuple #[.int .i64 x, .int .i64 0])) hws, rfl⟩
    · have ds : decide (0 ≤ s) = false := decide_eq_false (by omega)
      clear ha hb a1 b1 hok h1 h2 HS
      go_enter Try.func13, Try.ntmps13
      go_wp2
      go_ret2
      exact ⟨by rw [HV.out, HE.out, ← hs1.out]; first | rfl | exact congrArg (fun x => Ending.returned (.tuple #[.int .i64 x, .int .i64 0])) hws, rfl⟩
    · clear ha hb a1 b1 hok h1 h2 HS
      go_enter Try.func13, Try.ntmps13
      go_wp2
      go_ret2
      exact ⟨by rw [HV.out, HE.out, ← hs1.out]; first | rfl | exact congrArg (fun x => Ending.returned (.tuple #[.int .i64 x, .int .i64 0])) hws, rfl⟩
set_option maxHeartbeats 400000 in
theorem refAdd_any (a b : Int) (ha : ok64 a = true) (hb : ok64 b = true) (w : World) : R Try.prog 12 a b (a + b) w := by
  unfold R
  have a1 := ok_iff.1 ha
  have b1 := ok_iff.1 hb
  have a1l := a1.1
  have a1r := a1.2
  have b1l := b1.1
  have b1r := b1.2
  cases hok : ok64 (a + b)
  · have HV := Lib.hid (val_no hok)
    have HE := Lib.hid (err_no hok)
    have h0 := no_iff.1 hok
    by_cases h1 : 0 < b
    · have d1 : decide (0 < b) = true := decide_eq_true h1
      have d2 : 9223372036854775807 - b < a := by omega
      clear ha hb hok h0 a1 b1
      go_enter Try.func12, Try.ntmps12
      go_wp2
      go_ret2
      exact ⟨by rw [HV.out, HE.out]; rfl, rfl⟩
    · have d1 : decide (0 < b) = false := decide_eq_false h1
      have d3 : decide (b < 0) = true := decide_eq_true (by omega)
      have d2 : a < -9223372036854775808 - b := by omega
      clear ha hb hok h0 a1 b1
      go_enter Try.func12, Try.ntmps12
      go_wp2
      go_ret2
      exact ⟨by rw [HV.out, HE.out]; rfl, rfl⟩
  · have HV := Lib.hid (val_ok hok)
    have HE := Lib.hid (err_ok hok)
    have h0 := ok_iff.1 hok
    have h0l := h0.1
    have h0r := h0.2
    by_cases h1 : 0 < b
    · have d1 : decide (0 < b) = true := decide_eq_true h1
      have d2 : decide (9223372036854775807 - b < a) = false := decide_eq_false (by omega)
      have d3 : decide (b < 0) = false := decide_eq_false (by omega)
      clear ha hb hok h0 a1 b1
      go_enter Try.func12, Try.ntmps12
      go_wp2
      go_ret2
      exact ⟨by rw [HV.out, HE.out]; rfl, rfl⟩
    · have d1 : decide (0 < b) = false := decide_eq_false h1
      by_cases h3 : b < 0
      · have d3 : decide (b < 0) = true := decide_eq_true h3
        have d2 : decide (a < -9223372036854775808 - b) = false := decide_eq_false (by omega)
        clear ha hb hok h0 a1 b1
        go_enter Try.func12, Try.ntmps12
        go_wp2
        go_ret2
        exact ⟨by rw [HV.out, HE.out]; rfl, rfl⟩
      · have d3 : decide (b < 0) = false := decide_eq_false h3
        clear ha hb hok h0 a1 b1
        go_enter Try.func12, Try.ntmps12
        go_wp2
        go_ret2
        exact ⟨by rw [HV.out, HE.out]; rfl, rfl⟩
set_option maxHeartbeats 400000 in
theorem refSub_any (a b : Int) (ha : ok64 a = true) (hb : ok64 b = true) (w : World) : R Try.prog 14 a b (a - b) w := by
  unfold R
  have a1 := ok_iff.1 ha
  have b1 := ok_iff.1 hb
  have a1l := a1.1
  have a1r := a1.2
  have b1l := b1.1
  have b1r := b1.2
  cases hok : ok64 (a - b)
  · have HV := Lib.hid (val_no hok)
    have HE := Lib.hid (err_no hok)
    have h0 := no_iff.1 hok
    by_cases h1 : b < 0
    · have d1 : decide (b < 0) = true := decide_eq_true h1
      have d2 : 9223372036854775807 + b < a := by omega
      clear ha hb hok h0 a1 b1
      go_enter Try.func14, Try.ntmps14
      go_wp2
      go_ret2
      exact ⟨by rw [HV.out, HE.out]; rfl, rfl⟩
    · have d1 : decide (b < 0) = false := decide_eq_false h1
      have d3 : decide (0 < b) = true := decide_eq_true (by omega)
      have d2 : a < -9223372036854775808 + b := by omega
      clear ha hb hok h0 a1 b1
      go_enter Try.func14, Try.ntmps14
      go_wp2
      go_ret2
      exact ⟨by rw [HV.out, HE.out]; rfl, rfl⟩
  · have HV := Lib.hid (val_ok hok)
    have HE := Lib.hid (err_ok hok)
    have h0 := ok_iff.1 hok
    have h0l := h0.1
    have h0r := h0.2
    by_cases h1 : b < 0
    · have d1 : decide (b < 0) = true := decide_eq_true h1
      have d2 : decide (9223372036854775807 + b < a) = false := decide_eq_false (by omega)
      have d3 : decide (0 < b) = false := decide_eq_false (by omega)
      clear ha hb hok h0 a1 b1
      go_enter Try.func14, Try.ntmps14
      go_wp2
      go_ret2
      exact ⟨by rw [HV.out, HE.out]; rfl, rfl⟩
    · have d1 : decide (b < 0) = false := decide_eq_false h1
      by_cases h3 : 0 < b
      · have d3 : decide (0 < b) = true := decide_eq_true h3
        have d2 : decide (a < -9223372036854775808 + b) = false := decide_eq_false (by omega)
        clear ha hb hok h0 a1 b1
        go_enter Try.func14, Try.ntmps14
        go_wp2
        go_ret2
        exact ⟨by rw [HV.out, HE.out]; rfl, rfl⟩
      · have d3 : decide (0 < b) = false := decide_eq_false h3
        clear ha hb hok h0 a1 b1
        go_enter Try.func14, Try.ntmps14
        go_wp2
        go_ret2
        exact ⟨by rw [HV.out, HE.out]; rfl, rfl⟩
end Cal
end Go.Proofs.Ytpkicpmbpeginaa
