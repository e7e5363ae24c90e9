/- Split, for any numbers. -/
import Derived.Test.YtbfcgaijplhcoaaFeeA
namespace Go.Proofs.Ytbfcgaijplhcoaa
open Go.Sort Go.RowKit
namespace Fee
open In (Ints IsInts)
theorem totV_good {n : Nat} {l : List Int} (hn : n ≤ 1152921504606846976) (h : (totV l).2 = 0) : Good n (totV l).1.toNat l ∧ (((totV l).1.toNat : Nat) : Int) = (totV l).1 := by
  have hdef : totV l = if okW l then (if 1152921504606846976 < smTo l l.length then (0, 5) else if smTo l l.length = 0 then (0, 1) else (smTo l l.length, 0)) else (0, 1) := rfl
  by_cases h1 : okW l = true
  · have h1' : (decide (1 ≤ l.length) && (decide (l.length ≤ 16) && monTo l l.length)) = true := h1
    rw [Bool.and_eq_true, Bool.and_eq_true] at h1'
    obtain ⟨a1, a2, a3⟩ := h1'
    rw [if_pos h1] at hdef
    have hmo := (smTo_mono l l.length a3 0 l.length (by omega) (Nat.le_refl _)).2
    rw [show smTo l 0 = 0 from rfl] at hmo
    by_cases h2 : 1152921504606846976 < smTo l l.length
    · rw [if_pos h2] at hdef
      rw [hdef] at h; cases h
    · rw [if_neg h2] at hdef
      by_cases h3 : smTo l l.length = 0
      · rw [if_pos h3] at hdef
        rw [hdef] at h; cases h
      · rw [if_neg h3] at hdef
        rw [hdef]
        generalize hs : smTo l l.length = s at *
        exact ⟨⟨of_decide_eq_true a1, of_decide_eq_true a2, a3, by simp; omega, by simp; omega, by simp; omega, hn⟩, by simp; omega⟩
  · rw [if_neg h1] at hdef
    rw [hdef] at h; cases h
/-- What Split answers. -/
def splitV (n : Int) (l : List Int) : List Int × Int :=
  if inR n 1152921504606846976 then (if (totV l).2 = 0 then (outV n.toNat (totV l).1.toNat l, 0) else ([], (totV l).2)) else ([], 1)
set_option maxHeartbeats 2000000 in
theorem split_any (n : Int) (l : List Int) (a : Option Addr) (cap : Nat) (hl : l.length ≤ 4096) (w : World) (ha : Ints .i64 w a l) :
    Calls Try.prog 7 #[.int .i64 n, .slice a l.length cap] w (SplitOut (splitV n l).1 (splitV n l).2 w) := by
  have CM : Hid (∀ W, Calls Try.prog 19 #[.int .i64 n] W fun e w' => e = .returned (.bool (inR n 1152921504606846976)) ∧ W = w') := money_any n
  have CT := Lib.hid (total_any a cap l hl w ha)
  have HV : Hid (splitV n l = if inR n 1152921504606846976 then (if (totV l).2 = 0 then (outV n.toNat (totV l).1.toNat l, 0) else ([], (totV l).2)) else ([], 1)) := rfl
  cases hm : inR n 1152921504606846976
  · rw [hm] at CM HV
    replace HV : Hid (splitV n l = ([], 1)) := HV.out
    generalize splitV n l = V at *
    clear hm ha
    go_enter Try.func7, Try.ntmps7
    go_wp2_with (go_at_call 19; ((with_reducible refine (CM.out _).mono ?_); rintro e w1 ⟨rfl, rfl⟩))
    go_ret2
    exact ⟨none, 0, by rw [HV.out]; rfl, by rw [HV.out]; exact fun i hi => absurd hi (Nat.not_lt_zero _), Below.refl _ _⟩
  · have hr := inR_yes hm
    rw [hm] at CM HV
    by_cases ht : (totV l).2 = 0
    · obtain ⟨hg, he⟩ := totV_good (n := n.toNat) (by omega) ht
      have hn : ((n.toNat : Nat) : Int) = n := by omega
      have hV : splitV n l = (outV n.toNat (totV l).1.toNat l, 0) := by rw [HV.out, if_pos rfl, if_pos ht]
      rw [hV]
      have := split_core n.toNat (totV l).1.toNat l a cap hg w ha (by rw [hn]; exact CM.out) (by rw [he]; have := CT.out; rwa [ht] at this)
      rwa [hn] at this
    · replace HV : Hid (splitV n l = ([], (totV l).2)) := by show splitV n l = _; rw [HV.out, if_pos rfl, if_neg ht]
      generalize splitV n l = V at *
      generalize (totV l).2 = E at *
      generalize (totV l).1 = T at *
      have d1 : (E == 0) = false := beq_eq_false_iff_ne.2 ht
      clear hm ha hr
      go_enter Try.func7, Try.ntmps7
      go_wp2_with (first
        | (go_at_call 19; ((with_reducible refine (CM.out _).mono ?_); rintro e w1 ⟨rfl, rfl⟩))
        | (go_at_call 20; ((with_reducible refine CT.out.mono ?_); rintro e w1 ⟨rfl, rfl⟩)))
      go_ret2
      exact ⟨none, 0, by rw [HV.out]; rfl, by rw [HV.out]; exact fun i hi => absurd hi (Nat.not_lt_zero _), Below.refl _ _⟩
end Fee
end Go.Proofs.Ytbfcgaijplhcoaa
