/- What is put behind a file: the walk. -/
import Derived.Test.YtnbmjbelmcibgaaDskF
import Derived.Deep.Cut
set_option linter.unusedSimpArgs false
set_option linter.unusedVariables false
namespace Go.Proofs.Ytnbmjbelmcibgaa
open Go.RowKit Go.Great Go.Maps
namespace Dsk
/-- A file is looked up; where there is none, the empty one is told. -/
theorem lookup_file {ops : Array Oper} {rest : List Oper} {o : Oper} {a : Act} {w : World} {Q : Exit → Act → World → Prop} (hg : o.guard = none) (m x : Operand) (hop : o.op = Op.lookup 55 m x false) (b n : Nat) (l : List FileIn) (hm : a.eval m = .map (some b)) (hown : w.ownsMap Try.prog 9 fileElem b n (datum l))
    (s : ByteArray) (hx : a.eval x = .string s) (hs : s.size ≤ 1000000000) (f : FileIn) (hf : (find s.data.toList l).getD ⟨s.data.toList, [], 0⟩ = f) (h : wpList Try.prog ops Q rest (a.put o.dst (.agg #[.string ⟨f.by'.toArray⟩, .int .i64 f.sure])) w) : wpList Try.prog ops Q (o :: rest) a w := by
  refine wpList_plain hg fun K' hK' => ?_
  obtain ⟨v, ps, hrun, hv⟩ := hown.lookup law Try.underlying55 (zeroF w) (fileElem_mk [] 0 []) (WideMaps.keyOf_string_mk Try.underlying9 (s := s) (by unfold maxLen; omega))
  have hv2 : fileElem v = some (encF f, ps) := by
    rw [hv, datum_at, ← hf]
    cases find s.data.toList l <;> rfl
  obtain ⟨rfl, _⟩ := fileElem_inv hv2
  unfold Oper.wp
  simp [execOp, hop, hm, hx, hrun, Result.andThen]
  exact hK' _ _ h
end Dsk
end Go.Proofs.Ytnbmjbelmcibgaa
