/- The walks of the statements on sums, differences, products and lists. -/
import Derived.Test.YtpkicpmbpeginaaCalA
import Derived.Test.YtpkicpmbpeginaaInI
namespace Go.Proofs.Ytpkicpmbpeginaa
open Go.RowKit
namespace Cal
open In (Ints IsInts)
theorem ok_of_wf {a : Int} (h : (Lit.int .i64 a).wf = true) : ok64 a = true := ok_iff.2 (bounds_i64 h)
theorem below_al {w x : World} (h : Below w.heap.size w x) (o : Obj) : Below w.heap.size w (x.alloc o) := h.alloc h.size o
set_option maxHeartbeats 1000000 in
theorem calcSums_walk (a : Int) (ha : (Lit.int .i64 a).wf = true) (b : Int) (hb : (Lit.int .i64 b).wf = true) (w : World) :
    Calls Try.prog 5 #[.int .i64 a, .int .i64 b] w fun e w' => e = .returned (.bool true) ∧ Below w.heap.size w w' := by
  have A1 : Hid (∀ w, R Try.prog 11 a b (a + b) w) := add_any a b (ok_of_wf ha) (ok_of_wf hb)
  have A2 : Hid (∀ w, R Try.prog 12 a b (a + b) w) := refAdd_any a b (ok_of_wf ha) (ok_of_wf hb)
  have A3 : Hid (∀ w, R Try.prog 13 a b (a - b) w) := sub_any a b (ok_of_wf ha) (ok_of_wf hb)
  have A4 : Hid (∀ w, R Try.prog 14 a b (a - b) w) := refSub_any a b (ok_of_wf ha) (ok_of_wf hb)
  have A5 : Hid (∀ w, R Try.prog 15 a b (a * b) w) := mul_any a b (ok_of_wf ha) (ok_of_wf hb)
  have A6 : Hid (∀ w, R Try.prog 16 a b (a * b) w) := refMul_any a b (ok_of_wf ha) (ok_of_wf hb)
  clear ha hb
  generalize a + b = n1 at *
  generalize a - b = n2 at *
  generalize a * b = n3 at *
  unfold R at A1 A2 A3 A4 A5 A6
  go_enter Try.func5, Try.ntmps5
  go_wp2_with (first
    | (go_at_call 11; ((with_reducible refine (A1.out _).mono ?_); rintro e w1 ⟨rfl, rfl⟩))
    | (go_at_call 12; ((with_reducible refine (A2.out _).mono ?_); rintro e w1 ⟨rfl, rfl⟩))
    | (go_at_call 13; ((with_reducible refine (A3.out _).mono ?_); rintro e w1 ⟨rfl, rfl⟩))
    | (go_at_call 14; ((with_reducible refine (A4.out _).mono ?_); rintro e w1 ⟨rfl, rfl⟩))
    | (go_at_call 15; ((with_reducible refine (A5.out _).mono ?_); rintro e w1 ⟨rfl, rfl⟩))
    | (go_at_call 16; ((with_reducible refine (A6.out _).mono ?_); rintro e w1 ⟨rfl, rfl⟩))
    | (go_at_call 8; ((with_reducible refine (awake_any _).mono ?_); rintro e w4 ⟨rfl, hb4⟩)))
  go_ret
  exact ⟨rfl, hb4⟩
/-- The sum of the first k numbers, as far as it goes. -/
def pre (l : List Int) : Nat → Option Int
  | 0 => some 0
  | k + 1 => match pre l k with
    | some s => if ok64 (s + l.getD k 0) then some (s + l.getD k 0) else none
    | none => none
theorem pre_ok (l : List Int) (k : Nat) (s : Int) (h : pre l k = some s) : ok64 s = true := by
  cases k with
  | zero => cases h; rfl
  | succ k =>
    rw [pre] at h
    cases hp : pre l k with
    | none => rw [hp] at h; cases h
    | some t =>
      rw [hp] at h
      simp only at h
      split at h
      · cases h; assumption
      · cases h
theorem pre_none (l : List Int) (k j : Nat) (h : pre l k = none) (hj : k ≤ j) : pre l j = none := by
  induction j with
  | zero => have : k = 0 := by omega
            subst this; exact h
  | succ j ih =>
    by_cases e : k = j + 1
    · subst e; exact h
    · rw [pre, ih (by omega)]
def sumV (l : List Int) : Int := match pre l l.length with | some s => s | none => 0
def sumE (l : List Int) : Int := match pre l l.length with | some _ => 0 | none => 5
theorem getD_memI (l : List Int) (k : Nat) (h : k < l.length) : l.getD k 0 ∈ l := by
  rw [List.getD_eq_getElem?_getD, List.getElem?_eq_getElem h]; exact List.getElem_mem h
set_option maxHeartbeats 1000000 in
theorem sum_any (a : Option Addr) (cap : Nat) (l : List Int) (hl : l.length ≤ maxLen) (w : World) (ha : Ints .i64 w a l) (hw : ∀ n ∈ l, (Lit.int .i64 n).wf = true) :
    Calls Try.prog 9 #[.slice a l.length cap] w fun e w' => e = .returned (.tuple #[.int .i64 (sumV l), .int .i64 (sumE l)]) ∧ w = w' := by
  unfold maxLen at hl
  have HW := Lib.hid hw
  have HA := Lib.hid ha
  clear hw ha
  go_enter Try.func9, Try.ntmps9
  go_wp2
  go_loop [4, 11] (fun n i => ∃ (k : Nat) (s : Int), k ≤ l.length ∧ i = .int .i64 k ∧ n = .int .i64 s ∧ Hid (pre l k = some s)) (fun _ i => l.length - (intOf i).toNat)
  case atStart => exact ⟨0, 0, by omega, rfl, rfl, rfl⟩
  case round =>
    obtain ⟨k, s, hk, rfl, rfl, HP⟩ := hrel
    by_cases hlt : k < l.length
    · obtain ⟨b, off, rfl, hb, hc⟩ := HA.out k hlt
      have hx := ok_of_wf (HW.out _ (getD_memI l k hlt))
      have hs := pre_ok l k s HP.out
      have hpk : Hid (pre l (k + 1) = if ok64 (s + l.getD k 0) then some (s + l.getD k 0) else none) := by show pre l (k + 1) = _; rw [pre, HP.out]
      have hlt1 : (k : Int) < (l.length : Int) := by omega
      generalize l.getD k 0 = x at *
      have AD : Hid (∀ w, R Try.prog 11 s x (s + x) w) := add_any s x hs hx
      unfold R at AD
      clear hx hs
      cases hok : ok64 (s + x)
      · have HV := val_no hok
        have HE := err_no hok
        rw [HV, HE] at AD
        have hpn : pre l l.length = none := pre_none l (k + 1) l.length (by rw [hpk.out, hok]; rfl) (by omega)
        have e1 : Hid (sumV l = 0) := by show sumV l = 0; unfold sumV; rw [hpn]
        have e2 : Hid (sumE l = 5) := by show sumE l = 5; unfold sumE; rw [hpn]
        clear HV HE hok hpn
        go_wp2_with (go_at_call 11; ((with_reducible refine (AD.out _).mono ?_); rintro e w1 ⟨rfl, rfl⟩))
        go_ret2
        exact ⟨by rw [e1.out, e2.out]; rfl, rfl⟩
      · have HV := val_ok hok
        have HE := err_ok hok
        rw [HV, HE] at AD
        have hpn : Hid (pre l (k + 1) = some (s + x)) := by show pre l (k + 1) = _; rw [hpk.out, hok]; rfl
        clear HV HE hok
        go_wp2_with (go_at_call 11; ((with_reducible refine (AD.out _).mono ?_); rintro e w1 ⟨rfl, rfl⟩))
        go_round
        case rel => exact ⟨k + 1, s + x, by omega, by go_num, rfl, hpn⟩
        case measure => simp [intOf]; omega
    · have hke : k = l.length := by omega
      have hp := HP.out
      rw [hke] at hp
      have e1 : Hid (sumV l = s) := by show sumV l = s; unfold sumV; rw [hp]
      have e2 : Hid (sumE l = 0) := by show sumE l = 0; unfold sumE; rw [hp]
      clear hke hp
      go_wp2
      go_ret2
      exact ⟨by rw [e1.out, e2.out]; rfl, rfl⟩
set_option maxHeartbeats 1000000 in
theorem refSum_any (a : Option Addr) (cap : Nat) (l : List Int) (hl : l.length ≤ maxLen) (w : World) (ha : Ints .i64 w a l) (hw : ∀ n ∈ l, (Lit.int .i64 n).wf = true) :
    Calls Try.prog 10 #[.slice a l.length cap] w fun e w' => e = .returned (.tuple #[.int .i64 (sumV l), .int .i64 (sumE l)]) ∧ w = w' := by
  unfold maxLen at hl
  have HW := Lib.hid hw
  have HA := Lib.hid ha
  clear hw ha
  go_enter Try.func10, Try.ntmps10
  go_wp2
  go_loop [4, 5] (fun n i => ∃ (k : Nat) (s : Int), k ≤ l.length ∧ i = .int .i64 k ∧ n = .int .i64 s ∧ Hid (pre l k = some s)) (fun _ i => l.length - (intOf i).toNat)
  case atStart => exact ⟨0, 0, by omega, rfl, rfl, rfl⟩
  case round =>
    obtain ⟨k, s, hk, rfl, rfl, HP⟩ := hrel
    by_cases hlt : k < l.length
    · obtain ⟨b, off, rfl, hb, hc⟩ := HA.out k hlt
      have hx := ok_of_wf (HW.out _ (getD_memI l k hlt))
      have hs := pre_ok l k s HP.out
      have hpk : Hid (pre l (k + 1) = if ok64 (s + l.getD k 0) then some (s + l.getD k 0) else none) := by show pre l (k + 1) = _; rw [pre, HP.out]
      have hlt1 : (k : Int) < (l.length : Int) := by omega
      generalize l.getD k 0 = x at *
      have AD : Hid (∀ w, R Try.prog 12 s x (s + x) w) := refAdd_any s x hs hx
      unfold R at AD
      clear hx hs
      cases hok : ok64 (s + x)
      · have HV := val_no hok
        have HE := err_no hok
        rw [HV, HE] at AD
        have hpn : pre l l.length = none := pre_none l (k + 1) l.length (by rw [hpk.out, hok]; rfl) (by omega)
        have e1 : Hid (sumV l = 0) := by show sumV l = 0; unfold sumV; rw [hpn]
        have e2 : Hid (sumE l = 5) := by show sumE l = 5; unfold sumE; rw [hpn]
        clear HV HE hok hpn
        go_wp2_with (go_at_call 12; ((with_reducible refine (AD.out _).mono ?_); rintro e w1 ⟨rfl, rfl⟩))
        go_ret2
        exact ⟨by rw [e1.out, e2.out]; rfl, rfl⟩
      · have HV := val_ok hok
        have HE := err_ok hok
        rw [HV, HE] at AD
        have hpn : Hid (pre l (k + 1) = some (s + x)) := by show pre l (k + 1) = _; rw [hpk.out, hok]; rfl
        clear HV HE hok
        go_wp2_with (go_at_call 12; ((with_reducible refine (AD.out _).mono ?_); rintro e w1 ⟨rfl, rfl⟩))
        go_round
        case rel => exact ⟨k + 1, s + x, by omega, by go_num, rfl, hpn⟩
        case measure => simp [intOf]; omega
    · have hke : k = l.length := by omega
      have hp := HP.out
      rw [hke] at hp
      have e1 : Hid (sumV l = s) := by show sumV l = s; unfold sumV; rw [hp]
      have e2 : Hid (sumE l = 0) := by show sumE l = 0; unfold sumE; rw [hp]
      clear hke hp
      go_wp2
      go_ret2
      exact ⟨by rw [e1.out, e2.out]; rfl, rfl⟩
set_option maxHeartbeats 1000000 in
theorem calcLists_walk (w : World) (v : Value) (l : List Int) (hw : IsInts .i64 w v l) :
    Calls Try.prog 4 #[v] w fun e w' => e = .returned (.bool true) ∧ Below w.heap.size w w' := by
  obtain ⟨a, cap, rfl, hlen, ha, hwf, _⟩ := hw
  have S1 := Lib.hid (sum_any a cap l hlen w ha hwf)
  have S2 := Lib.hid (refSum_any a cap l hlen w ha hwf)
  unfold maxLen at hlen
  clear ha hwf
  by_cases h : 20 < l.length
  · go_enter Try.func4, Try.ntmps4
    go_wp2_with (go_at_call 8; ((with_reducible refine (awake_any _).mono ?_); rintro e w4 ⟨rfl, hb4⟩))
    go_ret
    exact ⟨rfl, hb4⟩
  · go_enter Try.func4, Try.ntmps4
    go_wp2_with (first
      | (go_at_call 9; ((with_reducible refine S1.out.mono ?_); rintro e w1 ⟨rfl, rfl⟩))
      | (go_at_call 10; ((with_reducible refine S2.out.mono ?_); rintro e w1 ⟨rfl, rfl⟩))
      | (go_at_call 8; ((with_reducible refine (awake_any _).mono ?_); rintro e w4 ⟨rfl, hb4⟩)))
    go_ret
    exact ⟨rfl, hb4⟩
end Cal
end Go.Proofs.Ytpkicpmbpeginaa
