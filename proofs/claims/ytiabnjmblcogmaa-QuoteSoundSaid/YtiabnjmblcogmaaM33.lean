/- Texts put together: QuoN1. -/
import Derived.Test.YtiabnjmblcogmaaM29
set_option linter.all false
section
namespace Go.Proofs.Ytiabnjmblcogmaa
open Go.RowKit
namespace Quo
open Cat (CatIn BayIn chkC nob noy)
open Rec (BlueIn Stk Stks stkVals)
theorem busyTo_filter (l : List Int) (s : List Stk) (k : Nat) : ∀ m, busyTo l s k m = ((List.range m).filter (busy l s k)).length
  | 0 => rfl
  | m + 1 => by
    rw [busyTo, busyTo_filter l s k m, List.range_succ, List.filter_append, List.length_append]
    cases h : busy l s k m <;> simp [h]
section
variable {c : CatIn} {bay : Int} {l : List Int} {level : Int}
theorem run_pos (hm : mayV c bay l level = 0) (k : Nat) : 0 ≤ l.getD k 0 := by
  obtain ⟨-, -, -, hr, -, -⟩ := mayV_ok hm
  by_cases hk : k < l.length
  · exact (run_of hr k hk).1
  · rw [List.getD_eq_getElem?_getD, List.getElem?_eq_none (by omega)]
    exact Int.le_refl 0
theorem run_iff (k : Nat) : (pcOf c bay l level).run k = true ↔ l.getD k 0 ≠ 0 := by
  show (!decide (l.getD k 0 = 0)) = true ↔ _
  simp
theorem whole_sum (hm : mayV c bay l level = 0) : ∀ n, wholeTo c l level n = sumIf (pcOf c bay l level).run (pcOf c bay l level).tm n
  | 0 => rfl
  | n + 1 => by
    rw [wholeTo, sumIf, whole_sum hm n]
    have h := run_pos hm n
    by_cases h0 : l.getD n 0 = 0
    · rw [if_neg (by omega), if_neg (fun e => (run_iff n).1 e h0)]
    · rw [if_pos (by omega), if_pos ((run_iff n).2 h0)]
      rfl
theorem whole_of (hm : mayV c bay l level = 0) : wholeV c l level = (wholeTo c l level c.blues.length, 0) := by
  obtain ⟨hK, -, -, hr, h0, h1⟩ := mayV_ok hm
  have ht := (good_of hK).1.1
  have hb : mayB c level = 0 := by
    unfold mayB
    rw [if_neg (by simpa using hK), if_neg (by omega), if_neg (by omega)]
  unfold wholeV
  rw [if_neg (by simpa using hb), if_neg (by rw [hr]; decide)]
variable {S : PS} (hm : mayV c bay l level = 0) (hi : PI (pcOf c bay l level) S) (hw : PW (pcOf c bay l level) 109951162777600099 S) (h0 : left (pcOf c bay l level) S = 0)
include hm hi hw h0
theorem begun_iff {k : Nat} (hk : k < c.blues.length) : isB S k = true ↔ l.getD k 0 ≠ 0 := by
  constructor
  · exact fun h => (run_iff k).1 (hw.run k h)
  · exact fun h => left_zero h0 hk ((run_iff k).2 h)
theorem sound_fits : fitsV c bay l level S.out = true := by
  have hlen : S.out.length = c.blues.length := hw.lo
  unfold fitsV
  rw [decide_eq_true hm, decide_eq_true hlen, hlen, Bool.true_and, Bool.true_and, Bool.and_eq_true, List.all_eq_true, List.all_eq_true]
  refine ⟨fun k hk => ?_, fun k hk => ?_⟩
  · have hkn := List.mem_range.1 hk
    unfold spanOk
    by_cases hl : l.getD k 0 = 0
    · rw [if_pos hl]
      have hb : isB S k = false := by
        cases hb : isB S k with
        | false => rfl
        | true => exact absurd hl ((begun_iff hm hi hw h0 hkn).1 hb)
      exact decide_eq_true (hw.zero k hb)
    · rw [if_neg hl]
      obtain ⟨h1, h2, -⟩ := hi.st k ((begun_iff hm hi hw h0 hkn).2 hl)
      have h3 : (pcOf c bay l level).tm k = timeJ c k l level := rfl
      unfold endOf begOf at h1
      unfold begOf at h2
      rw [h3] at h1
      rw [decide_eq_true h2, decide_eq_true (by omega), decide_eq_true (by omega)]
      rfl
  · have hkn := List.mem_range.1 hk
    unfold jobOk
    by_cases hl : l.getD k 0 = 0
    · rw [decide_eq_true hl]; rfl
    · have hb := (begun_iff hm hi hw h0 hkn).2 hl
      obtain ⟨h1, h2, h3⟩ := hi.st k hb
      rw [decide_eq_false hl, Bool.false_or, Bool.and_eq_true, List.all_eq_true]
      refine ⟨fun x hx => ?_, ?_⟩
      · rw [hlen] at hx
        have hxn := List.mem_range.1 hx
        unfold early
        cases hwt : waitsV c l k x with
        | false => simp
        | true =>
          have h4 := (hi.wts k x hxn hb hwt).2
          unfold endOf begOf at h4
          rw [decide_eq_false (by omega : ¬ (S.out.getD k (0, 0)).1 < (S.out.getD x (0, 0)).2)]
          simp
      · have h4 := hi.cnt (begOf S k) h3
        rw [hlen, busyTo_filter]
        have e : (List.range c.blues.length).filter (busy l S.out k) = (List.range (pcOf c bay l level).n).filter (atT S (begOf S k)) := by
          refine List.filter_congr fun x hx => ?_
          have hxn := List.mem_range.1 hx
          have h5 := begun_iff hm hi hw h0 hxn
          unfold busy atT
          cases hbx : isB S x with
          | true => rw [decide_eq_false (h5.1 hbx)]; rfl
          | false =>
            have : l.getD x 0 = 0 := by
              by_cases h6 : l.getD x 0 = 0
              · exact h6
              · rw [h5.2 h6] at hbx; cases hbx
            rw [decide_eq_true this]; rfl
        rw [e]
        exact decide_eq_true h4
theorem sound_end {k : Nat} (hk : k < c.blues.length) : (S.out.getD k (0, 0)).2 ≤ wholeTo c l level c.blues.length := by
  have ht := pcOf_time c bay l level
  rw [whole_sum hm]
  cases hb : isB S k with
  | false =>
    rw [hw.zero k hb]
    have h := sumIf_mono (P := fun _ => false) (Q := (pcOf c bay l level).run) (t := (pcOf c bay l level).tm) (fun k => (ht k).1) c.blues.length (fun _ _ h => by cases h)
    have h2 : ∀ n, sumIf (fun _ => false) (pcOf c bay l level).tm n = 0 := fun n => by
      induction n with
      | zero => rfl
      | succ n ih => rw [sumIf, ih]; rfl
    rw [h2] at h
    exact h
  | true =>
    obtain ⟨h1, h2, h3⟩ := hi.st k hb
    have hp := (pcOf_pos hm).pos k (hw.run k hb)
    have h4 := hi.smk k hb
    have h5 := sumIf_more (P := ended S (begOf S k)) (Q := (pcOf c bay l level).run) (t := (pcOf c bay l level).tm) (fun k => (ht k).1) (k := k) (hw.run k hb) (by unfold ended; rw [decide_eq_false (by omega)]; simp) c.blues.length hk (fun x _ hx => hw.run x (by unfold ended at hx; rw [Bool.and_eq_true] at hx; exact hx.1))
    have h6 : (pcOf c bay l level).n = c.blues.length := rfl
    rw [h6] at h4
    have h7 : endOf S k = (S.out.getD k (0, 0)).2 := rfl
    omega
theorem sound_beg {k : Nat} (hk : k < c.blues.length) : (S.out.getD k (0, 0)).1 = 0 ∨ ∃ x, x < c.blues.length ∧ 0 < l.getD x 0 ∧ (S.out.getD x (0, 0)).2 = (S.out.getD k (0, 0)).1 := by
  cases hb : isB S k with
  | false => exact .inl (by rw [hw.zero k hb])
  | true =>
    rcases hi.chk k hb with h | ⟨x, h1, h2, h3⟩
    · exact .inl h
    · have h4 := (run_iff (c := c) (bay := bay) (level := level) x).1 (hw.run x h2)
      have h5 := run_pos hm x
      exact .inr ⟨x, h1, by omega, h3⟩
end
end Quo
end Go.Proofs.Ytiabnjmblcogmaa
end
