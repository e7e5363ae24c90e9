/- Texts put together: CalP, CalM, CalN, CalS, CalA, CalL, QuoI. -/
import Derived.Test.YtiabnjmblcogmaaChecked
import Derived.WalkKit
import Derived.WalkLawsBesides
import Derived.Lib.Hide
import Derived.OpenShut
import Derived.Test.YtiabnjmblcogmaaM11
import Derived.RegionTactic
import Derived.BigRegion
import Derived.Test.YtiabnjmblcogmaaM02
import Derived.Test.YtiabnjmblcogmaaM17
import Derived.Test.YtiabnjmblcogmaaM18
set_option linter.all false
section
namespace Go.Proofs.Ytiabnjmblcogmaa
open Go.RowKit
namespace Cal
def ok64 (n : Int) : Bool := decide (-9223372036854775808 ≤ n ∧ n ≤ 9223372036854775807)
/-- The number, or 0 where it is too great. -/
def val (n : Int) : Int := if ok64 n then n else 0
def err (n : Int) : Int := if ok64 n then 0 else 5
theorem val_ok {n : Int} (h : ok64 n = true) : val n = n := by unfold val; rw [h]; rfl
theorem val_no {n : Int} (h : ok64 n = false) : val n = 0 := by unfold val; rw [h]; rfl
theorem err_ok {n : Int} (h : ok64 n = true) : err n = 0 := by unfold err; rw [h]; rfl
theorem err_no {n : Int} (h : ok64 n = false) : err n = 5 := by unfold err; rw [h]; rfl
theorem ok_iff {n : Int} : ok64 n = true ↔ -9223372036854775808 ≤ n ∧ n ≤ 9223372036854775807 := by simp [ok64]
theorem no_iff {n : Int} : ok64 n = false ↔ ¬ (-9223372036854775808 ≤ n ∧ n ≤ 9223372036854775807) := decide_eq_false_iff_not
theorem wrap_eq (n : Int) : wrap64 n = (n + 9223372036854775808) % 18446744073709551616 - 9223372036854775808 := by unfold wrap64; rfl
theorem wrap_hi {n : Int} (h1 : 9223372036854775807 < n) (h2 : n ≤ 18446744073709551615) : wrap64 n < 0 := by rw [wrap_eq]; omega
theorem wrap_lo {n : Int} (h1 : n < -9223372036854775808) (h2 : -18446744073709551616 ≤ n) : 0 ≤ wrap64 n := by rw [wrap_eq]; omega
theorem wrap_in {n : Int} (h : ok64 n = true) : wrap64 n = n := by have := ok_iff.1 h; rw [wrap_eq]; omega
def R (P : Program) (f : FuncId) (a b n : Int) (w : World) : Prop := Calls P f #[.int .i64 a, .int .i64 b] w fun e w' => e = .returned (.tuple #[.int .i64 (val n), .int .i64 (err n)]) ∧ w = w'
set_option maxHeartbeats 400000 in
theorem add_any (a b : Int) (ha : ok64 a = true) (hb : ok64 b = true) (w : World) : R Try.prog 74 a b (a + b) w := by
  unfold R
  have a1 := ok_iff.1 ha
  have b1 := ok_iff.1 hb
  obtain ⟨s, hs⟩ : ∃ s : Int, wrap64 (a + b) = s := ⟨_, rfl⟩
  cases hok : ok64 (a + b)
  · have HV := Lib.hid (val_no hok)
    have HE := Lib.hid (err_no hok)
    have h0 := no_iff.1 hok
    by_cases h1 : 9223372036854775807 < a + b
    · have hs0 := wrap_hi h1 (by omega)
      rw [hs] at hs0
      have da : decide (0 ≤ a) = true := decide_eq_true (by omega)
      have db : decide (0 ≤ b) = true := decide_eq_true (by omega)
      have ds : decide (0 ≤ s) = false := decide_eq_false (by omega)
      clear ha hb a1 b1 hok h0 h1 hs0
      go_enter Try.func74, Try.ntmps74
      go_wp2
      go_ret2
      exact ⟨by rw [HV.out, HE.out]; rfl, rfl⟩
    · have hs0 := wrap_lo (n := a + b) (by omega) (by omega)
      rw [hs] at hs0
      have da : decide (0 ≤ a) = false := decide_eq_false (by omega)
      have db : decide (0 ≤ b) = false := decide_eq_false (by omega)
      have ds : decide (0 ≤ s) = true := decide_eq_true (by omega)
      clear ha hb a1 b1 hok h0 h1 hs0
      go_enter Try.func74, Try.ntmps74
      go_wp2
      go_ret2
      exact ⟨by rw [HV.out, HE.out]; rfl, rfl⟩
  · have HV := Lib.hid (val_ok hok)
    have HE := Lib.hid (err_ok hok)
    have hs1 : Hid (s = a + b) := by show s = _; rw [← hs, wrap_in hok]
    have HS := hs1.out
    have hws : wrap64 s = s := by rw [HS, wrap_in hok]
    by_cases h1 : 0 ≤ a <;> by_cases h2 : 0 ≤ b
    all_goals
      have da : decide (0 ≤ a) = _ := (by first | exact decide_eq_true h1 | exact decide_eq_false h1)
      have db : decide (0 ≤ b) = _ := (by first | exact decide_eq_true h2 | exact decide_eq_false h2)
    · have ds : decide (0 ≤ s) = true := decide_eq_true (by omega)
      clear ha hb a1 b1 hok h1 h2 HS
      go_enter Try.func74, Try.ntmps74
      go_wp2
      go_ret2
      exact ⟨by rw [HV.out, HE.out, ← hs1.out]; first | rfl | exact congrArg (fun x => Ending.returned (.tuple #[.int .i64 x, .int .i64 0])) hws, rfl⟩
    · clear ha hb a1 b1 hok h1 h2 HS
      go_enter Try.func74, Try.ntmps74
      go_wp2
      go_ret2
      exact ⟨by rw [HV.out, HE.out, ← hs1.out]; first | rfl | exact congrArg (fun x => Ending.returned (.tuple #[.int .i64 x, .int .i64 0])) hws, rfl⟩
    · clear ha hb a1 b1 hok h1 h2 HS
      go_enter Try.func74, Try.ntmps74
      go_wp2
      go_ret2
      exact ⟨by rw [HV.out, HE.out, ← hs1.out]; first | rfl | exact congrArg (fun x => Ending.returned (.tuple #[.int .i64 x, .int .i64 0])) hws, rfl⟩
    · have ds : decide (0 ≤ s) = false := decide_eq_false (by omega)
      clear ha hb a1 b1 hok h1 h2 HS
      go_enter Try.func74, Try.ntmps74
      go_wp2
      go_ret2
      exact ⟨by rw [HV.out, HE.out, ← hs1.out]; first | rfl | exact congrArg (fun x => Ending.returned (.tuple #[.int .i64 x, .int .i64 0])) hws, rfl⟩
end Cal
end Go.Proofs.Ytiabnjmblcogmaa
end
section
namespace Go.Proofs.Ytiabnjmblcogmaa
open Go.RowKit
namespace Cal
theorem below2 {w a b : World} (h : Below w.heap.size w a) (h2 : Below a.heap.size a b) : Below w.heap.size w b := h.trans (h2.mono h.size)
/-- How far a number is from 0. -/
def sz (a : Int) : Nat := a.natAbs
theorem sz_neg {a : Int} (h : a < 0) : ((sz a : Nat) : Int) = -a := by unfold sz; omega
theorem sz_pos {a : Int} (h : ¬ a < 0) : ((sz a : Nat) : Int) = a := by unfold sz; omega
theorem w64 (n : Int) : IntKind.u64.wrap n = n % 18446744073709551616 := by simp [IntKind.wrap, IntKind.bits, IntKind.signed]
/-- A product by its size. -/
theorem mul_sz (a b : Int) : a * b = if decide (a < 0) != decide (b < 0) then -((sz a * sz b : Nat) : Int) else ((sz a * sz b : Nat) : Int) := by
  by_cases ha : a < 0 <;> by_cases hb : b < 0
  · have h1 := sz_neg ha
    have h2 := sz_neg hb
    simp only [ha, hb, decide_true, bne_self_eq_false, Bool.false_eq_true, if_false, Int.natCast_mul, h1, h2, Int.neg_mul_neg]
  · have h1 := sz_neg ha
    have h2 := sz_pos hb
    simp only [ha, hb, decide_true, decide_false, Bool.true_bne, Bool.not_false, if_true, Int.natCast_mul, h1, h2, Int.neg_mul, Int.neg_neg]
  · have h1 := sz_pos ha
    have h2 := sz_neg hb
    simp only [ha, hb, decide_true, decide_false, Bool.false_bne, if_true, Int.natCast_mul, h1, h2, Int.mul_neg, Int.neg_neg]
  · have h1 := sz_pos ha
    have h2 := sz_pos hb
    simp only [ha, hb, decide_false, bne_self_eq_false, Bool.false_eq_true, if_false, Int.natCast_mul, h1, h2]
theorem sz_lt {a : Int} (h : ok64 a = true) : sz a ≤ 9223372036854775808 := by have := ok_iff.1 h; unfold sz; omega
end Cal
end Go.Proofs.Ytiabnjmblcogmaa
end
section
namespace Go.Proofs.Ytiabnjmblcogmaa
open Go.RowKit
namespace Cal
end Cal
end Go.Proofs.Ytiabnjmblcogmaa
end
section
namespace Go.Proofs.Ytiabnjmblcogmaa
open Go.RowKit
namespace Cal
set_option maxHeartbeats 400000 in
theorem div_zero_hi (lo y : Nat) (hl : lo < 18446744073709551616) (hy : y < 18446744073709551616) (h0 : 0 < y) (w : World) :
    Calls Try.prog 89 #[.int .u64 0, .int .u64 (lo : Int), .int .u64 (y : Int)] w fun e w' => e = .returned (.tuple #[.int .u64 ((lo / y : Nat) : Int), .int .u64 ((lo % y : Nat) : Int)]) ∧ Below w.heap.size w w' := by
  have h1 : ((y : Int) == 0) = false := beq_eq_false_iff_ne.2 (by omega)
  have h2 : ¬ (y : Int) ≤ 0 := by omega
  have h3 : (lo : Int) ≤ 18446744073709551615 := by omega
  have h4 : (1 : Int) ≤ (y : Int) := by omega
  have hw : Hid (IntKind.u64.wrap ((lo : Int) / (y : Int)) = (lo : Int) / (y : Int)) := by
    show _ = _
    rw [w64, show (lo : Int) / (y : Int) = ((lo / y : Nat) : Int) from (Int.natCast_ediv lo y).symm]
    have := Nat.div_le_self lo y
    generalize lo / y = q at *
    omega
  clear hl hy h0
  go_enter Try.func89, Try.ntmps89
  go_wp2
  go_region
  go_wp2
  go_ret2
  exact ⟨by rw [Int.natCast_ediv, Int.natCast_emod]; exact congrArg (fun q => Ending.returned (.tuple #[.int .u64 q, .int .u64 ((lo : Int) % (y : Int))])) hw.out, (Below.refl _ _).drew⟩
theorem lz_max (w : World) : Calls Try.prog 98 #[.int .u64 9223372036854775807] w fun e w' => e = .returned (.int .i64 1) ∧ w = w' :=
  (Try.bits_LeadingZeros64 9223372036854775807 w (by decide) (by decide)).mono fun e w' ⟨a, b⟩ => ⟨by rw [a, show Lib.bitLen (Int.toNat 9223372036854775807) = 63 by decide +kernel]; rfl, b.symm⟩
set_option maxRecDepth 100000 in
set_option maxHeartbeats 1000000 in
theorem div_max (w : World) :
    Calls Try.prog 89 #[.int .u64 4611686018427387903, .int .u64 1, .int .u64 9223372036854775807] w fun e w' => e = .returned (.tuple #[.int .u64 9223372036854775807, .int .u64 0]) ∧ w = w' := by
  have hb : bits .or .u64 9223372036854775806 0 = 9223372036854775806 := by decide +kernel
  have hb2 : bits .and .u64 18446744073709551614 4294967295 = 4294967294 := by decide +kernel
  have hb3 : bits .and .u64 2 4294967295 = 2 := by decide +kernel
  go_enter Try.func89, Try.ntmps89
  go_wp2_with (go_at_call 98; ((with_reducible refine (lz_max _).mono ?_); rintro e w1 ⟨rfl, rfl⟩))
  go_loop [15, 16] (fun q r => q = .int .u64 2147483648 ∧ r = .int .u64 2147483646) (fun _ _ => 0)
  case atStart => exact ⟨rfl, rfl⟩
  case round =>
    obtain ⟨rfl, rfl⟩ := hrel
    go_wp2
    go_loop [18, 16] (fun q r => q = .int .u64 4294967295 ∧ r = .int .u64 4294967293) (fun _ _ => 0)
    case atStart => exact ⟨rfl, rfl⟩
    case round =>
      obtain ⟨rfl, rfl⟩ := hrel
      go_wp2
      go_ret2
      exact ⟨rfl, rfl⟩
end Cal
end Go.Proofs.Ytiabnjmblcogmaa
end
section
namespace Go.Proofs.Ytiabnjmblcogmaa
open Go.RowKit
namespace Cal
/-- A number times another one, by a third; rounded up, or down. -/
def scl (a b c : Nat) (up : Bool) : Nat := a * b / c + if up && decide (0 < a * b % c) then 1 else 0
set_option maxHeartbeats 1000000 in
theorem scale_any (a b c : Nat) (up : Bool) (ha : a ≤ 9223372036854775807) (hb : b ≤ 9223372036854775807) (hp : a * b ≤ 9223372036854775807) (hc : 1 ≤ c) (hc2 : c ≤ 9223372036854775807) (w : World) :
    Calls Try.prog 70 #[.int .i64 (a : Int), .int .i64 (b : Int), .int .i64 (c : Int), .bool up] w fun e w' => e = .returned (.tuple #[.int .i64 (scl a b c up : Int), .int .i64 0]) ∧ Below w.heap.size w w' := by
  have CM : Hid (∀ w : World, Calls Try.prog 88 #[.int .u64 (a : Int), .int .u64 (b : Int)] w fun e w' => e = .returned (.tuple #[.int .u64 0, .int .u64 ((a * b : Nat) : Int)]) ∧ w = w') := by
    show ∀ w : World, _
    intro w
    refine (Try.bits_Mul64 a b (by omega) (by omega) w).mono fun e w' ⟨h1, h2⟩ => ⟨?_, h2.symm⟩
    rw [h1, show a * b / 18446744073709551616 = 0 from Nat.div_eq_of_lt (by omega), Nat.mod_eq_of_lt (by omega)]
    rfl
  have CD := div_zero_hi (a * b) c (by omega) (by omega) (by omega)
  have hq : a * b / c ≤ a * b := Nat.div_le_self _ _
  have hr : a * b % c < c := Nat.mod_lt _ (by omega)
  have hqc : 0 < a * b % c → a * b / c < 9223372036854775807 := by
    intro h
    rcases Nat.lt_or_ge c 2 with h2 | h2
    · have : c = 1 := by omega
      subst this
      rw [Nat.mod_one] at h
      omega
    · have := Nat.div_le_div_left h2 (by omega) (a := a * b)
      omega
  have hs : Hid (scl a b c up = a * b / c + if up && decide (0 < a * b % c) then 1 else 0) := rfl
  generalize scl a b c up = S at *
  generalize a * b / c = q at *
  generalize a * b % c = r at *
  generalize a * b = p at *
  obtain ⟨Q, hQ⟩ : ∃ Q : Int, (q : Int) = Q := ⟨_, rfl⟩
  rw [hQ] at CD
  have HQ := Lib.hid hQ
  have CD := Lib.hid CD
  have k1 : ¬ (a : Int) < 0 := by omega
  have k1' : decide ((a : Int) < 0) = false := decide_eq_false k1
  have k2 : ¬ (b : Int) < 0 := by omega
  have k2' : decide ((b : Int) < 0) = false := decide_eq_false k2
  have k3 : ¬ (c : Int) < 1 := by omega
  have k3' : decide ((c : Int) < 1) = false := decide_eq_false k3
  have k4 : ¬ (c : Int) ≤ 0 := by omega
  have k4' : decide ((c : Int) ≤ 0) = false := decide_eq_false k4
  have k5 : Q ≤ 9223372036854775807 := by omega
  have k50 : 0 ≤ Q := by omega
  have k6 : (a : Int) ≤ 9223372036854775807 := by omega
  have k7 : (b : Int) ≤ 9223372036854775807 := by omega
  have k8 : (c : Int) ≤ 9223372036854775807 := by omega
  clear ha hb hp hc hc2 hq hr hQ
  cases up
  · have hS : Hid (S = q) := by show S = q; rw [hs.out]; rfl
    clear hqc
    go_enter Try.func70, Try.ntmps70
    go_wp2_with (first
      | (go_at_call 88; ((with_reducible refine (CM.out _).mono ?_); rintro e w1 ⟨rfl, rfl⟩))
      | (go_at_call 89; ((with_reducible refine (CD.out _).mono ?_); rintro e w1 ⟨rfl, hb1⟩)))
    go_ret2
    exact ⟨by rw [hS.out, ← HQ.out]; rfl, hb1⟩
  · by_cases hr0 : 0 < r
    · have hS : Hid (S = q + 1) := by show S = _; rw [hs.out, decide_eq_true hr0]; rfl
      have k9 : decide (0 < r) = true := decide_eq_true hr0
      have k10 : Q + 1 ≤ 9223372036854775807 := by have := hqc hr0; have := HQ.out; omega
      clear hqc
      go_enter Try.func70, Try.ntmps70
      go_wp2_with (first
        | (go_at_call 88; ((with_reducible refine (CM.out _).mono ?_); rintro e w1 ⟨rfl, rfl⟩))
        | (go_at_call 89; ((with_reducible refine (CD.out _).mono ?_); rintro e w1 ⟨rfl, hb1⟩)))
      go_ret2
      exact ⟨by rw [hS.out, ← HQ.out]; rfl, hb1⟩
    · have hS : Hid (S = q) := by show S = _; rw [hs.out, decide_eq_false hr0]; rfl
      have k9 : decide (0 < r) = false := decide_eq_false hr0
      clear hqc
      go_enter Try.func70, Try.ntmps70
      go_wp2_with (first
        | (go_at_call 88; ((with_reducible refine (CM.out _).mono ?_); rintro e w1 ⟨rfl, rfl⟩))
        | (go_at_call 89; ((with_reducible refine (CD.out _).mono ?_); rintro e w1 ⟨rfl, hb1⟩)))
      go_ret2
      exact ⟨by rw [hS.out, ← HQ.out]; rfl, hb1⟩
theorem mul_max (w : World) : Calls Try.prog 88 #[.int .u64 9223372036854775807, .int .u64 9223372036854775807] w fun e w' => e = .returned (.tuple #[.int .u64 4611686018427387903, .int .u64 1]) ∧ w = w' :=
  (Try.bits_Mul64 9223372036854775807 9223372036854775807 (by decide) (by decide) w).mono fun e w' ⟨h1, h2⟩ => ⟨h1, h2.symm⟩
set_option maxHeartbeats 1000000 in
theorem scale_max (w : World) :
    Calls Try.prog 70 #[.int .i64 9223372036854775807, .int .i64 9223372036854775807, .int .i64 9223372036854775807, .bool false] w fun e w' => e = .returned (.tuple #[.int .i64 9223372036854775807, .int .i64 0]) ∧ w = w' := by
  go_enter Try.func70, Try.ntmps70
  go_wp2_with (first
    | (go_at_call 88; ((with_reducible refine (mul_max _).mono ?_); rintro e w1 ⟨rfl, rfl⟩))
    | (go_at_call 89; ((with_reducible refine (div_max _).mono ?_); rintro e w1 ⟨rfl, rfl⟩)))
  go_ret2
  exact ⟨rfl, rfl⟩
theorem add_23 (w : World) : Calls Try.prog 74 #[.int .i64 2, .int .i64 3] w fun e w' => e = .returned (.tuple #[.int .i64 5, .int .i64 0]) ∧ w = w' := add_any 2 3 (by decide) (by decide) w
theorem add_m1 (w : World) : Calls Try.prog 74 #[.int .i64 9223372036854775807, .int .i64 1] w fun e w' => e = .returned (.tuple #[.int .i64 0, .int .i64 5]) ∧ w = w' := add_any 9223372036854775807 1 (by decide) (by decide) w
theorem scale_732 (w : World) : Calls Try.prog 70 #[.int .i64 7, .int .i64 3, .int .i64 2, .bool true] w fun e w' => e = .returned (.tuple #[.int .i64 11, .int .i64 0]) ∧ Below w.heap.size w w' := scale_any 7 3 2 true (by decide) (by decide) (by decide) (by decide) (by decide) w
end Cal
end Go.Proofs.Ytiabnjmblcogmaa
end
section
namespace Go.Proofs.Ytiabnjmblcogmaa
open Go.RowKit
namespace Cal
open In (Ints IsInts)
theorem ok_of_wf {a : Int} (h : (Lit.int .i64 a).wf = true) : ok64 a = true := ok_iff.2 (bounds_i64 h)
theorem below_al {w x : World} (h : Below w.heap.size w x) (o : Obj) : Below w.heap.size w (x.alloc o) := h.alloc h.size o
/-- The sum of the first k numbers, as far as it goes. -/
def pre (l : List Int) : Nat → Option Int
  | 0 => some 0
  | k + 1 => match pre l k with
    | some s => if ok64 (s + l.getD k 0) then some (s + l.getD k 0) else none
    | none => none
theorem pre_ok (l : List Int) (k : Nat) (s : Int) (h : pre l k = some s) : ok64 s = true := by
  cases k with
  | zero => cases h; rfl
  | succ k =>
    rw [pre] at h
    cases hp : pre l k with
    | none => rw [hp] at h; cases h
    | some t =>
      rw [hp] at h
      simp only at h
      split at h
      · cases h; assumption
      · cases h
theorem pre_none (l : List Int) (k j : Nat) (h : pre l k = none) (hj : k ≤ j) : pre l j = none := by
  induction j with
  | zero => have : k = 0 := by omega
            subst this; exact h
  | succ j ih =>
    by_cases e : k = j + 1
    · subst e; exact h
    · rw [pre, ih (by omega)]
def sumV (l : List Int) : Int := match pre l l.length with | some s => s | none => 0
def sumE (l : List Int) : Int := match pre l l.length with | some _ => 0 | none => 5
theorem getD_memI (l : List Int) (k : Nat) (h : k < l.length) : l.getD k 0 ∈ l := by
  rw [List.getD_eq_getElem?_getD, List.getElem?_eq_getElem h]; exact List.getElem_mem h
set_option maxHeartbeats 1000000 in
theorem sum_any (a : Option Addr) (cap : Nat) (l : List Int) (hl : l.length ≤ maxLen) (w : World) (ha : Ints .i64 w a l) (hw : ∀ n ∈ l, (Lit.int .i64 n).wf = true) :
    Calls Try.prog 53 #[.slice a l.length cap] w fun e w' => e = .returned (.tuple #[.int .i64 (sumV l), .int .i64 (sumE l)]) ∧ w = w' := by
  unfold maxLen at hl
  have HW := Lib.hid hw
  have HA := Lib.hid ha
  clear hw ha
  go_enter Try.func53, Try.ntmps53
  go_wp2
  go_loop [4, 11] (fun n i => ∃ (k : Nat) (s : Int), k ≤ l.length ∧ i = .int .i64 k ∧ n = .int .i64 s ∧ Hid (pre l k = some s)) (fun _ i => l.length - (intOf i).toNat)
  case atStart => exact ⟨0, 0, by omega, rfl, rfl, rfl⟩
  case round =>
    obtain ⟨k, s, hk, rfl, rfl, HP⟩ := hrel
    by_cases hlt : k < l.length
    · obtain ⟨b, off, rfl, hb, hc⟩ := HA.out k hlt
      have hx := ok_of_wf (HW.out _ (getD_memI l k hlt))
      have hs := pre_ok l k s HP.out
      have hpk : Hid (pre l (k + 1) = if ok64 (s + l.getD k 0) then some (s + l.getD k 0) else none) := by show pre l (k + 1) = _; rw [pre, HP.out]
      have hlt1 : (k : Int) < (l.length : Int) := by omega
      generalize l.getD k 0 = x at *
      have AD : Hid (∀ w, R Try.prog 74 s x (s + x) w) := add_any s x hs hx
      unfold R at AD
      clear hx hs
      cases hok : ok64 (s + x)
      · have HV := val_no hok
        have HE := err_no hok
        rw [HV, HE] at AD
        have hpn : pre l l.length = none := pre_none l (k + 1) l.length (by rw [hpk.out, hok]; rfl) (by omega)
        have e1 : Hid (sumV l = 0) := by show sumV l = 0; unfold sumV; rw [hpn]
        have e2 : Hid (sumE l = 5) := by show sumE l = 5; unfold sumE; rw [hpn]
        clear HV HE hok hpn
        go_wp2_with (go_at_call 74; ((with_reducible refine (AD.out _).mono ?_); rintro e w1 ⟨rfl, rfl⟩))
        go_ret2
        exact ⟨by rw [e1.out, e2.out]; rfl, rfl⟩
      · have HV := val_ok hok
        have HE := err_ok hok
        rw [HV, HE] at AD
        have hpn : Hid (pre l (k + 1) = some (s + x)) := by show pre l (k + 1) = _; rw [hpk.out, hok]; rfl
        clear HV HE hok
        go_wp2_with (go_at_call 74; ((with_reducible refine (AD.out _).mono ?_); rintro e w1 ⟨rfl, rfl⟩))
        go_round
        case rel => exact ⟨k + 1, s + x, by omega, by go_num, rfl, hpn⟩
        case measure => simp [intOf]; omega
    · have hke : k = l.length := by omega
      have hp := HP.out
      rw [hke] at hp
      have e1 : Hid (sumV l = s) := by show sumV l = s; unfold sumV; rw [hp]
      have e2 : Hid (sumE l = 0) := by show sumE l = 0; unfold sumE; rw [hp]
      clear hke hp
      go_wp2
      go_ret2
      exact ⟨by rw [e1.out, e2.out]; rfl, rfl⟩
end Cal
end Go.Proofs.Ytiabnjmblcogmaa
end
section
namespace Go.Proofs.Ytiabnjmblcogmaa
open Go.RowKit
namespace Quo
open Cat (CatIn BayIn chkC nob noy makerV Cam Box box_new box_b box_next box_flat)
open Rec (BlueIn Stk)
open Pen (below2 below_al below_dN)
open Fee (bayV)
theorem pre_sum (l : List Int) (B : Int) (hB : B ≤ 1099511627777) (h : ∀ x ∈ l, 0 ≤ x ∧ x ≤ B) (hl : l.length ≤ 20) : ∀ k, k ≤ l.length → Cal.pre l k = some (l.take k).sum ∧ 0 ≤ (l.take k).sum ∧ (l.take k).sum ≤ (k : Int) * 1099511627777
  | 0, _ => ⟨rfl, Int.le_refl _, by simp⟩
  | k + 1, hk => by
    obtain ⟨h1, h2, h3⟩ := pre_sum l B hB h hl k (by omega)
    have hx := h (l.getD k 0) (Cal.getD_memI l k (by omega))
    have e : (l.take (k + 1)).sum = (l.take k).sum + l.getD k 0 := by
      rw [List.take_succ_eq_append_getElem (by omega), List.sum_append, List.getD_eq_getElem?_getD, List.getElem?_eq_getElem (by omega)]
      simp
    rw [Cal.pre, h1]
    refine ⟨?_, by rw [e]; omega, by rw [e]; push_cast; omega⟩
    dsimp only
    rw [if_pos, e]
    generalize (l.take k).sum = S at *
    generalize l.getD k 0 = q at *
    unfold Cal.ok64
    exact decide_eq_true (by omega)
theorem sumV_small (l : List Int) (B : Int) (hB : B ≤ 1099511627777) (h : ∀ x ∈ l, 0 ≤ x ∧ x ≤ B) (hl : l.length ≤ 20) : Cal.sumV l = l.sum ∧ Cal.sumE l = 0 := by
  have := (pre_sum l B hB h hl l.length (Nat.le_refl _)).1
  rw [List.take_of_length_le (Nat.le_refl _)] at this
  unfold Cal.sumV Cal.sumE
  rw [this]
  exact ⟨rfl, rfl⟩
/-- What the bay asks for all jobs that take so long; none: one takes too long. -/
def feeJ (rate : Int) (ts : List Int) : Option Int := if ts.all (fun t => decide (t ≤ 1099511627776)) then some ((ts.map fun t => (bayV rate t).1).sum) else none
def feeJV (rate : Int) (ts : List Int) : Int × Int := match feeJ rate ts with
  | none => (0, 5)
  | some n => (n, 0)
def jobTimes (c : CatIn) (l : List Int) (level : Int) (k : Nat) : List Int := (jobsTo l k).map fun x => timeJ c x l level
theorem feeTo_jobs {c : CatIn} {bay : Int} {l : List Int} {level : Int} (hl : ∀ k, k < l.length → 0 ≤ l.getD k 0) : ∀ k, feeTo c bay l level k = feeJ (rateOf c bay) (jobTimes c l level k)
  | 0 => rfl
  | k + 1 => by
    have ih := feeTo_jobs (c := c) (bay := bay) (level := level) hl k
    have h0 : 0 ≤ l.getD k 0 := by
      by_cases hk : k < l.length
      · exact hl k hk
      · rw [List.getD_eq_getElem?_getD, List.getElem?_eq_none (by omega)]; exact Int.le_refl _
    have e : jobTimes c l level (k + 1) = jobTimes c l level k ++ if l.getD k 0 = 0 then [] else [timeJ c k l level] := by
      unfold jobTimes
      rw [jobsTo_succ, List.map_append]
      split <;> rfl
    rw [feeTo, ih, e]
    clear ih e hl
    generalize l.getD k 0 = q at *
    generalize timeJ c k l level = t at *
    generalize jobTimes c l level k = J at *
    generalize rateOf c bay = r at *
    by_cases hz : q = 0
    · rw [if_pos hz, List.append_nil]
      unfold feeJ
      cases h : J.all (fun t => decide (t ≤ 1099511627776)) with
      | true => rw [if_pos rfl]; show (if 0 < q then _ else _) = _; rw [if_neg (show ¬ 0 < q by omega)]
      | false => rfl
    · rw [if_neg hz]
      have hp : 0 < q := by omega
      unfold feeJ
      rw [List.all_append, List.all_cons, List.all_nil, Bool.and_true]
      cases h : J.all (fun t => decide (t ≤ 1099511627776)) with
      | true =>
        rw [if_pos rfl]
        show (if 0 < q then _ else _) = _
        rw [if_pos hp, Bool.true_and]
        by_cases ht : 1099511627776 < t
        · rw [if_pos ht, decide_eq_false (by omega)]; rfl
        · rw [if_neg ht, decide_eq_true (by omega), if_pos rfl, List.map_append, List.sum_append]
          simp
      | false => rw [Bool.false_and]; rfl
theorem flat_get3 {α : Type} (f : α → List Value) (k : Nat) (hf : ∀ a, (f a).length = k) (l : List α) (d : α) (i j : Nat) (hi : i < l.length) (hj : j < k) : (l.flatMap f)[i * k + j]? = (f (l.getD i d))[j]? := by
  induction l generalizing i with
  | nil => simp at hi
  | cons a l ih =>
    cases i with
    | zero =>
      rw [List.flatMap_cons, Nat.zero_mul, Nat.zero_add, List.getElem?_append_left (by rw [hf]; exact hj)]
      rfl
    | succ i =>
      have h2 := ih i (by simpa using hi)
      rw [List.flatMap_cons, List.getElem?_append_right (by rw [hf, Nat.succ_mul]; omega), hf]
      have e : (i + 1) * k + j - k = i * k + j := by rw [Nat.succ_mul]; omega
      rw [e, h2]
      rfl
/-- A job's cells in a shop. -/
theorem Shop.job {c : CatIn} {l : List Int} {level : Int} {y : BayIn} {n k base g : Nat} {L : List JobIn} {v : Value} {w : World} (h : Shop c l level y n k base g L v w) {i : Nat} (hi : i < L.length) :
    ∃ gb jc, v = .slice (some ⟨gb, 0, none⟩) L.length jc ∧ gb < w.heap.size ∧ w.cell? ⟨gb, i * 3, none⟩ = some (.int .i64 ((L.getD i noj).blue : Int)) ∧ w.cell? ⟨gb, i * 3 + 1, none⟩ = some (.slice (L.getD i noj).wa (L.getD i noj).waits.length (L.getD i noj).wcap) ∧ w.cell? ⟨gb, i * 3 + 2, none⟩ = some (.int .i64 (L.getD i noj).time) := by
  rcases h.own.2 with ⟨-, h0⟩ | ⟨gb, cap, cur, hv, -, hg, -⟩
  · omega
  · have key : ∀ j u, j < 3 → (jcells (L.getD i noj))[j]? = some u → w.cell? ⟨gb, i * 3 + j, none⟩ = some u := fun j u hj hu => by
      have h2 : (jobVals L)[i * 3 + j]? = some u := (flat_get3 jcells 3 (fun _ => rfl) L noj i j hi hj).trans hu
      have h3 := h.own
      rw [hv] at h3
      rw [h3.cellAt (i * 3 + j) (by omega)]
      exact h2
    exact ⟨gb, cap, hv, (Array.getElem?_eq_some_iff.1 hg).1, key 0 _ (by decide) rfl, key 1 _ (by decide) rfl, key 2 _ (by decide) rfl⟩
theorem keep2 {W V : World} {p q : Addr} {a b : Value} (hp : Hid (W.cell? p = some a ∧ p.block < W.heap.size)) (hq : Hid (W.cell? q = some b ∧ q.block < W.heap.size)) (h : Hid (Below W.heap.size W V)) : V.cell? p = some a ∧ V.cell? q = some b ∧ Hid (Below W.heap.size W V) :=
  ⟨(h.out.cell hp.out.2).trans hp.out.1, (h.out.cell hq.out.2).trans hq.out.1, h⟩
theorem feeJ_none {rate : Int} {L : List JobIn} {i : Nat} (hi : i < L.length) (h : 1099511627776 < (L.getD i noj).time) : feeJ rate (L.map (·.time)) = none := by
  unfold feeJ
  rw [if_neg]
  rw [List.all_eq_true]
  intro hc
  have := hc (L.getD i noj).time (List.mem_map.2 ⟨_, by rw [List.getD_eq_getElem?_getD, List.getElem?_eq_getElem hi]; exact List.getElem_mem hi, rfl⟩)
  rw [decide_eq_true_eq] at this
  omega
theorem feeJ_some {rate : Int} {L : List JobIn} (h : ∀ i, i < L.length → (L.getD i noj).time ≤ 1099511627776) : feeJ rate (L.map (·.time)) = some ((L.map fun j => (bayV rate j.time).1).sum) := by
  unfold feeJ
  rw [if_pos, List.map_map]
  · rfl
  · rw [List.all_eq_true]
    intro t ht
    obtain ⟨j, hj, rfl⟩ := List.mem_map.1 ht
    obtain ⟨i, hi, rfl⟩ := List.getElem_of_mem hj
    have := h i hi
    rw [List.getD_eq_getElem?_getD, List.getElem?_eq_getElem hi] at this
    exact decide_eq_true this
theorem bayV_ok {p x : Int} (hp : 0 ≤ p ∧ p ≤ 10000) (hx : 0 ≤ x) : (bayV p x).2 = if 1099511627776 < x then 1 else 0 := by
  unfold bayV Fee.inR
  by_cases h : 1099511627776 < x
  · rw [if_pos h, if_neg]
    simp
    omega
  · rw [if_neg h, if_pos]
    simp
    omega
/-- Numbers as a row of one's own lie as they do. -/
theorem ints_of_own {w : World} {base n : Nat} {e : TypeId} {v : Value} {l : List Int} (h : w.ownsRow base e 1 v n (l.map (Value.int .i64))) : ∃ a cap, v = .slice a l.length cap ∧ In.Ints .i64 w a l := by
  have hl : n = l.length := by have := h.1; rw [List.length_map, Nat.mul_one] at this; exact this.symm
  subst hl
  rcases h.2 with ⟨rfl, h0⟩ | ⟨g, cap, cur, rfl, -, hg, -⟩
  · exact ⟨none, 0, by rw [h0], fun i hi => by omega⟩
  · refine ⟨some ⟨g, 0, none⟩, cap, rfl, fun i hi => ⟨g, 0, rfl, (Array.getElem?_eq_some_iff.1 hg).1, ?_⟩⟩
    rw [Nat.zero_add, h.cellAt i (by omega), List.getElem?_map, List.getD_eq_getElem?_getD, List.getElem?_eq_getElem hi]
    rfl
set_option maxRecDepth 100000 in
set_option maxHeartbeats 4000000 in
theorem shopFee_any {c : CatIn} {l : List Int} {level : Int} {y : BayIn} {n k base g : Nat} {L : List JobIn} {v : Value} {w : World} (hS : Shop c l level y n k base g L v w) (hL : L.length ≤ 20) (hy : 0 ≤ y.rate ∧ y.rate ≤ 10000) :
    Calls Try.prog 34 #[.pointer (some ⟨g, 0, none⟩)] w fun e w' => e = .returned (.tuple #[.int .i64 (feeJV y.rate (L.map (·.time))).1, .int .i64 (feeJV y.rate (L.map (·.time))).2]) ∧ Below w.heap.size w w' := by
  obtain ⟨i0, hi0, hz0, hz1, hz2⟩ := info_of info3
  have HS := Lib.hid hS
  have hgl := hS.lt
  have a3 : w.cell? ⟨g, 3, none⟩ = some (.int .i64 y.rate) := hS.row.cell (by decide)
  have a5 : w.cell? ⟨g, 5, none⟩ = some v := hS.row.cell (by decide)
  obtain ⟨ja, jc, rfl⟩ := own_slice hS.own
  have HT0 : Hid (∀ i, i < L.length → 0 ≤ (L.getD i noj).time) := fun i hi => by
    have hj : L.getD i noj ∈ L := by rw [List.getD_eq_getElem?_getD, List.getElem?_eq_getElem hi]; exact List.getElem_mem hi
    rw [hS.jobs.time _ hj]
    exact (time_le _ _ _).1
  have CB : Hid (∀ W x, Calls Try.prog 52 #[.int .i64 y.rate, .int .i64 x] W fun e w' => e = .returned (.tuple #[.int .i64 (bayV y.rate x).1, .int .i64 (bayV y.rate x).2]) ∧ Below W.heap.size W w') := fun W x => Fee.bay_any _ x W
  have HBV : Hid (∀ x, 0 ≤ x → (bayV y.rate x).2 = if 1099511627776 < x then 1 else 0) := fun x hx => bayV_ok hy hx
  have HBB : Hid (∀ x, 0 ≤ (bayV y.rate x).1 ∧ (bayV y.rate x).1 ≤ 1099511627777) := fun x => bay_bounds _ x
  obtain ⟨R, hR⟩ : ∃ R, Hid (feeJV y.rate (L.map (·.time)) = R) := ⟨_, rfl⟩
  rw [hR.out]
  have HN : Hid (∀ i, i < L.length → 1099511627776 < (L.getD i noj).time → R = (0, 5)) := fun i hi h => by rw [← hR.out]; unfold feeJV; rw [feeJ_none hi h]
  have HY : Hid ((∀ i, i < L.length → (L.getD i noj).time ≤ 1099511627776) → R = ((L.map fun j => (bayV y.rate j.time).1).sum, 0)) := fun h => by rw [← hR.out]; unfold feeJV; rw [feeJ_some h]
  obtain ⟨B, hB⟩ : ∃ B : JobIn → Int, Hid ((fun j => (bayV y.rate j.time).1) = B) := ⟨_, rfl⟩
  have HBe : Hid (∀ j, (bayV y.rate j.time).1 = B j) := fun j => congrFun hB.out j
  rw [hB.out] at HY
  have CS : Hid (∀ W a cap, In.Ints .i64 W a (L.map B) → Calls Try.prog 53 #[.slice a (L.map B).length cap] W fun e w' => e = .returned (.tuple #[.int .i64 (L.map B).sum, .int .i64 0]) ∧ W = w') := fun W a cap h => by
    have hb : ∀ x ∈ L.map B, 0 ≤ x ∧ x ≤ 1099511627777 := fun x hx => by
      obtain ⟨j, -, rfl⟩ := List.mem_map.1 hx
      rw [← HBe.out j]
      exact HBB.out _
    have h2 := Cal.sum_any a cap (L.map B) (by rw [List.length_map]; unfold maxLen; omega) W h fun x hx => by
      have := hb x hx
      simp [Lit.wf, IntKind.min, IntKind.max, IntKind.signed, IntKind.bits]
      omega
    obtain ⟨e1, e2⟩ := sumV_small (L.map B) _ (Int.le_refl _) hb (by rw [List.length_map]; exact hL)
    rw [e1, e2] at h2
    exact h2
  clear hR hy hS
  go_enter Try.func34, Try.ntmps34
  go_wp2
  go_loopw [4, 14] (fun v4 v14 wr => ∃ i : Nat, v14 = .int .i64 (i : Int) ∧ i ≤ L.length ∧ Hid (∀ x, x < i → (L.getD x noj).time ≤ 1099511627776) ∧ Hid (wr.ownsRow w.heap.size 3 1 v4 i (((L.take i).map B).map (Value.int .i64))) ∧ Hid (Below w.heap.size w wr)) (fun _ v14 _ => L.length - (intOf v14).toNat)
  case atStart => exact ⟨0, rfl, Nat.zero_le _, fun x hx => absurd hx (Nat.not_lt_zero x), World.ownsRow_nil _ _ _ _, Below.refl _ _⟩
  case round =>
    obtain ⟨i, rfl, hi, HF, HO, HB⟩ := hrel
    by_cases hil : i < L.length
    · have di : decide ((i : Int) < (L.length : Int)) = true := decide_eq_true (by omega)
      have hi1 : (i : Int) < (L.length : Int) := by omega
      have hi00 : (0 : Int) ≤ (i : Int) := by omega
      obtain ⟨gb, jc2, hje, hgb, x0, x1, x2⟩ := HS.out.job hil
      cases hje
      have ht0 := HT0.out i hil
      have HNi := Lib.hid (HN.out i hil)
      have hbe := HBe.out (L.getD i noj)
      have HTk : Hid ((L.take (i + 1)).map B = (L.take i).map B ++ [B (L.getD i noj)]) := by
        show _ = _
        rw [List.take_succ_eq_append_getElem hil, List.map_append, List.getD_eq_getElem?_getD, List.getElem?_eq_getElem hil]
        rfl
      have HF2 : Hid ((L.getD i noj).time ≤ 1099511627776 → ∀ x, x < i + 1 → (L.getD x noj).time ≤ 1099511627776) := fun h x hx => by
        by_cases e : x = i
        · rw [e]; exact h
        · exact HF.out x (by omega)
      generalize B (L.getD i noj) = bv at *
      generalize L.getD i noj = J at *
      obtain ⟨blue, wa, wc, ws, T⟩ := J
      dsimp only at *
      have hbv := HBV.out T ht0
      have CBT := Lib.hid (fun W => CB.out W T)
      rw [hbe] at CBT
      clear hbe
      have z0 := (HB.out.cell (p := ⟨gb, i * 3, none⟩) hgb).trans x0
      have z1 := (HB.out.cell (p := ⟨gb, i * 3 + 1, none⟩) hgb).trans x1
      have z2 := (HB.out.cell (p := ⟨gb, i * 3 + 2, none⟩) hgb).trans x2
      clear x0 x1 x2
      by_cases hT : 1099511627776 < T
      · rw [if_pos hT] at hbv
        rw [hbv] at CBT
        have HRn : Hid (R = (0, 5)) := HNi.out hT
        clear hbv
        go_upto_region 5 with (fail)
        have HA3 : Hid ((wr.alloc (.cells #[.int .i64 (blue : Int), .slice wa ws.length wc, .int .i64 T] 62)).cell? ⟨g, 3, none⟩ = some (.int .i64 y.rate) ∧ (⟨g, 3, none⟩ : Addr).block < (wr.alloc (.cells #[.int .i64 (blue : Int), .slice wa ws.length wc, .int .i64 T] 62)).heap.size) := ⟨((below_al HB.out _).cell (p := ⟨g, 3, none⟩) hgl).trans a3, Nat.lt_of_lt_of_le hgl (below_al HB.out _).size⟩
        have HA2 : Hid ((wr.alloc (.cells #[.int .i64 (blue : Int), .slice wa ws.length wc, .int .i64 T] 62)).cell? ⟨wr.heap.size, 2, none⟩ = some (.int .i64 T) ∧ (⟨wr.heap.size, 2, none⟩ : Addr).block < (wr.alloc (.cells #[.int .i64 (blue : Int), .slice wa ws.length wc, .int .i64 T] 62)).heap.size) := ⟨by go_simp, by simp⟩
        have HB1 : Hid (Below w.heap.size w (wr.alloc (.cells #[.int .i64 (blue : Int), .slice wa ws.length wc, .int .i64 T] 62))) := below_al HB.out _
        have HO1 := Lib.hid (Own.own_below HO.out (below_al (Below.refl wr.heap.size wr) (.cells #[.int .i64 (blue : Int), .slice wa ws.length wc, .int .i64 T] 62)))
        generalize (wr.alloc (.cells #[.int .i64 (blue : Int), .slice wa ws.length wc, .int .i64 T] 62)) = W1 at *
        have HT1 := Lib.hid (Below.refl W1.heap.size W1).drew
        go_region_held3 (fun V => V.cell? ⟨g, 3, none⟩ = some (.int .i64 y.rate) ∧ V.cell? ⟨wr.heap.size, 2, none⟩ = some (.int .i64 T) ∧ Hid (Below W1.heap.size W1 V)) (first | exact keep2 HA3 HA2 HT2 | exact keep2 HA3 HA2 HT1)
          (first
          | (go_at_call 52; (with_reducible refine (CBT.out _).mono ?_); rintro e w3 ⟨rfl, hb3⟩; have HT2 := Lib.hid (below2 HT1.out hb3)))
        go_wp2
        go_ret2
        exact ⟨by rw [HRn.out]; rfl, below2 HB1.out HT2.out⟩
      · rw [if_neg hT] at hbv
        rw [hbv] at CBT
        have HF3 := Lib.hid (HF2.out (by omega))
        clear hbv HNi
        go_upto_region 5 with (fail)
        have HA3 : Hid ((wr.alloc (.cells #[.int .i64 (blue : Int), .slice wa ws.length wc, .int .i64 T] 62)).cell? ⟨g, 3, none⟩ = some (.int .i64 y.rate) ∧ (⟨g, 3, none⟩ : Addr).block < (wr.alloc (.cells #[.int .i64 (blue : Int), .slice wa ws.length wc, .int .i64 T] 62)).heap.size) := ⟨((below_al HB.out _).cell (p := ⟨g, 3, none⟩) hgl).trans a3, Nat.lt_of_lt_of_le hgl (below_al HB.out _).size⟩
        have HA2 : Hid ((wr.alloc (.cells #[.int .i64 (blue : Int), .slice wa ws.length wc, .int .i64 T] 62)).cell? ⟨wr.heap.size, 2, none⟩ = some (.int .i64 T) ∧ (⟨wr.heap.size, 2, none⟩ : Addr).block < (wr.alloc (.cells #[.int .i64 (blue : Int), .slice wa ws.length wc, .int .i64 T] 62)).heap.size) := ⟨by go_simp, by simp⟩
        have HB1 : Hid (Below w.heap.size w (wr.alloc (.cells #[.int .i64 (blue : Int), .slice wa ws.length wc, .int .i64 T] 62))) := below_al HB.out _
        have HO1 := Lib.hid (Own.own_below HO.out (below_al (Below.refl wr.heap.size wr) (.cells #[.int .i64 (blue : Int), .slice wa ws.length wc, .int .i64 T] 62)))
        generalize (wr.alloc (.cells #[.int .i64 (blue : Int), .slice wa ws.length wc, .int .i64 T] 62)) = W1 at *
        have HT1 := Lib.hid (Below.refl W1.heap.size W1).drew
        go_region_held3 (fun V => V.cell? ⟨g, 3, none⟩ = some (.int .i64 y.rate) ∧ V.cell? ⟨wr.heap.size, 2, none⟩ = some (.int .i64 T) ∧ Hid (Below W1.heap.size W1 V)) (first | exact keep2 HA3 HA2 HT2 | exact keep2 HA3 HA2 HT1)
          (first
          | (go_at_call 52; (with_reducible refine (CBT.out _).mono ?_); rintro e w3 ⟨rfl, hb3⟩; have HT2 := Lib.hid (below2 HT1.out hb3)))
        go_wp2_with (at_builtin; refine Own.list_one rfl (.tmp 31) (.tmp 33) 29 rfl w.heap.size 3 i0 _ 8 Try.underlying29 hi0 hz0 hz1 hz2 rfl _ _ _ rfl _ _ _ rfl ((Own.own_below HO1.out HT2.out).alloc _) (Own.cell_new _ _ _) rfl ?h1 ?h2 ?h3 ?_; (case h1 => unfold maxLen; omega); (case h2 => omega); (case h3 => have := HB1.out.size; have := HT2.out.size; simp; omega); intro v5 w5 hown5 hgrow5; have HB5 := Lib.hid ((below_al (below2 HB1.out HT2.out) _).grown hgrow5 (below_al (below2 HB1.out HT2.out) _).size (Own.own_block HO1.out (Nat.le_refl _))); have HO5 := Lib.hid hown5; clear hown5 hgrow5)
        go_roundw
        case rel => exact ⟨i + 1, by go_num, by omega, HF3.out, by rw [HTk.out, List.map_append]; exact HO5.out, HB5.out⟩
        case measure => simp [intOf]; omega
    · have di : decide ((i : Int) < (L.length : Int)) = false := decide_eq_false (by omega)
      have hi1 : ¬ (i : Int) < (L.length : Int) := by omega
      have hin : i = L.length := by omega
      have HRs : Hid (R = ((L.map B).sum, 0)) := HY.out fun x hx => HF.out x (by omega)
      rw [hin, List.take_of_length_le (Nat.le_refl _)] at HO
      obtain ⟨oa, oc, rfl, HI⟩ := ints_of_own HO.out
      have CSW := CS.out wr oa oc HI
      rw [List.length_map] at CSW
      replace CSW := Lib.hid CSW
      rw [List.length_map]
      clear hin
      go_wp2_with (go_at_call 53; (with_reducible refine CSW.out.mono ?_); rintro e w6 ⟨rfl, rfl⟩)
      go_ret2
      exact ⟨by rw [HRs.out]; rfl, HB.out⟩
end Quo
end Go.Proofs.Ytiabnjmblcogmaa
end
