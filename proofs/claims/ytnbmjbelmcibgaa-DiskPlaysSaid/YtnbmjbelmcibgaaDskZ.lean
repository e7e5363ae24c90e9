/- How many bytes all files have: the walk. -/
import Derived.Test.YtnbmjbelmcibgaaDskY
import Derived.Maps.RangeWalk
import Derived.Deep.Cut
set_option linter.unusedSimpArgs false
set_option linter.unusedVariables false
namespace Go.Proofs.Ytnbmjbelmcibgaa
open Go.RowKit Go.Great Go.Maps
namespace Dsk
/-- The bytes of the files that are still to come. -/
def toCome (left : Lit → Bool) (l : List FileIn) : Nat := bytesOf (l.filter fun f => left (.string f.nm))
theorem come_all {l : List FileIn} (h : Fok l) : toCome (Maps.has (datum l)) l = bytesOf l := by
  unfold toCome
  congr 1
  rw [List.filter_eq_self]
  intro f hf
  rw [datum_has, (find_some h.rise f.nm f).2 ⟨hf, rfl⟩]
  rfl
theorem come_none {left : Lit → Bool} (h : ∀ kl, left kl = false) (l : List FileIn) : toCome left l = 0 := by
  unfold toCome
  rw [List.filter_eq_nil_iff.2 fun f _ => by rw [h]; decide]
  rfl
theorem same_str (a b : List UInt8) : (Lit.string a).sameKey (.string b) = decide (a = b) := by
  show (a == b) = decide (a = b)
  by_cases h : a = b
  · simp [h]
  · simp [h]
theorem come_step (left : Lit → Bool) : ∀ {l : List FileIn}, (l.Pairwise fun a b => bytesBefore a.nm b.nm = true) → ∀ f ∈ l, left (.string f.nm) = true → toCome left l = f.by'.length + toCome (fun z => left z && !z.sameKey (.string f.nm)) l
  | [], _, f, hf, _ => by cases hf
  | x :: l, h, f, hf, hl => by
    obtain ⟨h1, h2⟩ := List.pairwise_cons.1 h
    rcases List.mem_cons.1 hf with rfl | hf
    · have e : l.filter (fun g => left (.string g.nm)) = l.filter (fun g => left (.string g.nm) && !(Lit.string g.nm).sameKey (.string f.nm)) := by
        apply List.filter_congr
        intro g hg
        have hne : g.nm ≠ f.nm := fun e => by
          have := h1 g hg
          rw [e, WideAt.bytes_irrefl] at this
          cases this
        rw [same_str, decide_eq_false hne]
        simp
      unfold toCome
      rw [List.filter_cons_of_pos (by simpa using hl), List.filter_cons_of_neg (by show ¬ (left (.string f.nm) && !(Lit.string f.nm).sameKey (.string f.nm)) = true; rw [same_str, decide_eq_true rfl]; simp), ← e]
      simp [bytesOf]
    · have ih := come_step left h2 f hf hl
      have hne : x.nm ≠ f.nm := fun e => by
        have := h1 f hf
        rw [e, WideAt.bytes_irrefl] at this
        cases this
      unfold toCome at ih ⊢
      have e2 : (left (.string x.nm) && !(Lit.string x.nm).sameKey (.string f.nm)) = left (.string x.nm) := by
        rw [same_str, decide_eq_false hne]
        simp
      cases hx : left (.string x.nm) with
      | true =>
        rw [List.filter_cons_of_pos (by simpa using hx), List.filter_cons_of_pos (by show (left (.string x.nm) && !(Lit.string x.nm).sameKey (.string f.nm)) = true; rw [e2]; exact hx)]
        unfold bytesOf at ih ⊢
        rw [List.map_cons, List.sum_cons, List.map_cons, List.sum_cons, ih]
        omega
      | false =>
        rw [List.filter_cons_of_neg (by rw [hx]; decide), List.filter_cons_of_neg (by show ¬ (left (.string x.nm) && !(Lit.string x.nm).sameKey (.string f.nm)) = true; rw [e2, hx]; decide)]
        exact ih
/-- An entry that comes is a file. -/
theorem entry_file {l : List FileIn} {s : List UInt8} {y : DataW Unit × List MemPlace} (h : ∀ zd, (datum l).atKey (.string s) zd = y.1) : ∃ f, find s l = some f ∧ y.1 = encF f := by
  cases hf : find s l with
  | some f =>
    refine ⟨f, rfl, ?_⟩
    rw [← h (.lit (.bool true)), datum_at, hf]
  | none =>
    have h1 := h (.lit (.bool true))
    have h2 := h (.lit (.bool false))
    rw [datum_at, hf] at h1 h2
    rw [← h2] at h1
    cases h1
end Dsk
end Go.Proofs.Ytnbmjbelmcibgaa
