/- Two texts that came in as one argument. -/
import Derived.Test.YtnbmjbelmcibgaaDskJ
import Derived.OpenShut
import Derived.ChangeShapes
import Derived.Deep.Fields
set_option linter.unusedSimpArgs false
namespace Go.Proofs.Ytnbmjbelmcibgaa
open Go.RowKit Go.WideShapes Go.WideElems Go.ChangeAt Go.ChangeShapes
namespace Dsk
def IsTwo (v : Value) (l : List ByteArray) : Prop := ∃ a b, l = [a, b] ∧ v = .agg #[.string a, .string b] ∧ a.size ≤ maxLen ∧ b.size ≤ maxLen
theorem list2 {α : Type} (l : List α) (h : (⟨l⟩ : Array α).size = 2) : ∃ a b, l = [a, b] := by
  match l, h with
  | [a, b], _ => exact ⟨a, b, rfl⟩
theorem isTwo_of {H : Type} {enc : TypeId × Value → H} {P : Program} {t e : TypeId} (ht : P.underlying t = some (.array 2 e)) (he : P.underlying e = some .string) (hc : P.cellsOf e = 1) (hct : P.cellsOf t = 2) {W : World} {r : Reach} {b0 : Nat} {v : Value} {d : DataW H} {p : List MemPlace} {base : Nat} {spare held : _}
    (hv : Value.okWide P W r b0 t v) (h : DataW.Trod enc P W base spare held t v d p) : ∃ l, IsTwo v l := by
  obtain ⟨cs, rfl, hsz, _⟩ : ∃ cs, v = .agg cs ∧ cs.size = P.cellsOf t ∧ Row.okWide P W r b0 t cs := by
    simpa [Value.okWide, ht] using hv
  rw [hct] at hsz
  obtain ⟨l⟩ := cs
  obtain ⟨c0, c1, rfl⟩ := list2 l hsz
  obtain ⟨fuel, hf⟩ := h
  obtain ⟨xs, m, _, _, _, hlen, hg⟩ := DataW.trod_array ht hf
  match xs, hlen with
  | [y0, y1], _ =>
    have g0 := hg 0 (by decide)
    have g1 := hg 1 (by decide)
    simp [Value.cells, hc] at g0 g1
    obtain ⟨s0, e0, -, z0⟩ := DataW.trod_string he g0
    obtain ⟨s1, e1, -, z1⟩ := DataW.trod_string he g1
    simp at e0 e1
    subst e0 e1
    exact ⟨_, s0, s1, rfl, rfl, z0, z1⟩
end Dsk
end Go.Proofs.Ytnbmjbelmcibgaa
