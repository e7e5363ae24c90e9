/- A disk's files as a map reads them. -/
import Derived.Test.YtnbmjbelmcibgaaDskX
import Derived.Maps.Views
set_option linter.unusedSimpArgs false
set_option linter.unusedVariables false
namespace Go.Proofs.Ytnbmjbelmcibgaa
open Go.RowKit
namespace Dsk
/-- A file, as it is read. -/
def encF (f : FileIn) : DataW Unit := .agg [.lit (.string f.by'), .lit (.int .i64 f.sure)]
def entry (f : FileIn) : Lit × DataW Unit := (.string f.nm, encF f)
/-- All files, as they are read. -/
def datum (l : List FileIn) : DataW Unit := .map (l.map entry)
/-- How a file is read. -/
def fileElem (v : Value) : Option (DataW Unit × List MemPlace) := match v with
  | .agg cs => match cs.toList with
    | [.string s, .int .i64 n] => some (.agg [.lit (.string s.data.toList), .lit (.int .i64 n)], [])
    | _ => none
  | _ => none
theorem insert_entry (f : FileIn) : ∀ l : List FileIn, DataW.insert (entry f) (l.map entry) = (ins f l).map entry
  | [] => rfl
  | x :: l => by
    rw [List.map_cons]
    unfold DataW.insert ins
    show (if bytesBefore f.nm x.nm = true then _ else _) = _
    by_cases h : bytesBefore f.nm x.nm = true
    · rw [if_pos h, if_pos h]
      rfl
    · rw [if_neg h, if_neg h, insert_entry f l]
      rfl
theorem same_entry (x : FileIn) (s : List UInt8) : (entry x).1.sameKey (.string s) = decide (x.nm = s) := by
  show (x.nm == s) = decide (x.nm = s)
  by_cases h : x.nm = s
  · simp [h]
  · simp [h]
theorem filter_entry (s : List UInt8) (l : List FileIn) : (l.map entry).filter (fun p => !p.1.sameKey (.string s)) = (del s l).map entry := by
  unfold del
  rw [List.filter_map]
  congr 1
  apply List.filter_congr
  intro x _
  show (!(entry x).1.sameKey (.string s)) = _
  rw [same_entry]
theorem datum_put (f : FileIn) (l : List FileIn) : (datum l).put (.string f.nm) (encF f) = datum (putF f l) := by
  show DataW.map (DataW.insert (entry f) ((l.map entry).filter fun p => !p.1.sameKey (.string f.nm))) = _
  rw [filter_entry, insert_entry]
  rfl
theorem datum_del (s : List UInt8) (l : List FileIn) : (datum l).del (.string s) = datum (del s l) := by
  show DataW.map ((l.map entry).filter fun p => !p.1.sameKey (.string s)) = _
  rw [filter_entry]
  rfl
theorem datum_has (s : List UInt8) (l : List FileIn) : Maps.has (datum l) (.string s) = (find s l).isSome := by
  show (l.map entry).any (fun p => p.1.sameKey (.string s)) = _
  unfold find
  induction l with
  | nil => rfl
  | cons x l ih =>
    rw [List.map_cons, List.any_cons, ih, List.find?_cons]
    rw [same_entry]
    cases decide (x.nm = s) <;> rfl
theorem datum_at (s : List UInt8) (l : List FileIn) (z : DataW Unit) : (datum l).atKey (.string s) z = match find s l with | some f => encF f | none => z := by
  unfold DataW.atKey datum find
  dsimp only
  rw [List.find?_map]
  have e : ((fun p : Lit × DataW Unit => p.1.sameKey (.string s)) ∘ entry) = fun x : FileIn => decide (x.nm = s) := by
    funext x
    exact same_entry x s
  rw [e]
  cases l.find? fun x => decide (x.nm = s) <;> rfl
/-- What a file that is read looks like. -/
theorem fileElem_inv {v : Value} {f : FileIn} {ps : List MemPlace} (h : fileElem v = some (encF f, ps)) : v = .agg #[.string ⟨f.by'.toArray⟩, .int .i64 f.sure] ∧ ps = [] := by
  unfold fileElem at h
  split at h
  · rename_i cs
    split at h
    · rename_i s n e
      obtain ⟨h1, h2⟩ := Prod.mk.inj (Option.some.inj h)
      unfold encF at h1
      injection h1 with h1
      injection h1 with h3 h4
      injection h3 with h3
      injection h3 with h3
      injection h4 with h4 _
      injection h4 with h4
      injection h4 with _ h4
      refine ⟨?_, h2.symm⟩
      obtain ⟨l⟩ := cs
      dsimp only at e
      subst e
      rw [← h3, ← h4]
    · cases h
  · cases h
theorem fileElem_mk (b : List UInt8) (n : Nat) (s : List UInt8) : fileElem (.agg #[.string ⟨b.toArray⟩, .int .i64 (n : Int)]) = some (encF ⟨s, b, n⟩, []) := rfl
end Dsk
end Go.Proofs.Ytnbmjbelmcibgaa
