/- Slices of pairs of integers that came in; a pair that came in. -/
import Derived.Test.YtjdkkldlghdojaaInI
import Derived.OpenShut
import Derived.Deep.Slices
namespace Go.Proofs.Ytjdkkldlghdojaa
open Go.RowKit Go.WideShapes Go.WideElems Go.ChangeAt Go.ChangeShapes
namespace In
/-- The pairs of integers that stand from an address on. -/
def PrsK (k : IntKind) (w : World) (a : Option Addr) (l : List (Int × Int)) : Prop :=
  ∀ i, i < l.length → ∃ b off, a = some ⟨b, off, none⟩ ∧ b < w.heap.size ∧ w.cell? ⟨b, off + i * 2, none⟩ = some (.int k (l.getD i (0, 0)).1) ∧ w.cell? ⟨b, off + i * 2 + 1, none⟩ = some (.int k (l.getD i (0, 0)).2)
theorem PrsK.below {k : IntKind} {w w' : World} {a : Option Addr} {l : List (Int × Int)} (h : PrsK k w a l) (hb : Below w.heap.size w w') : PrsK k w' a l := fun i hi => by
  obtain ⟨b, off, ha, hlt, hc, hd⟩ := h i hi
  exact ⟨b, off, ha, Nat.lt_of_lt_of_le hlt hb.size, (hb.cell (p := ⟨b, off + i * 2, none⟩) hlt).trans hc, (hb.cell (p := ⟨b, off + i * 2 + 1, none⟩) hlt).trans hd⟩
def IsPairs (k : IntKind) (w : World) (v : Value) (l : List (Int × Int)) : Prop :=
  ∃ a cap, v = .slice a l.length cap ∧ l.length ≤ maxLen ∧ PrsK k w a l ∧ ∀ i, i < l.length → (Lit.int k (l.getD i (0, 0)).1).wf = true ∧ (Lit.int k (l.getD i (0, 0)).2).wf = true
theorem two_of {H : Type} {enc : TypeId × Value → H} {P : Program} {e i : TypeId} {k : IntKind} (he : P.underlying e = some (.array 2 i)) (hi : P.underlying i = some (.int k)) (hce : P.cellsOf e = 2) (hci : P.cellsOf i = 1) {W : World} {base : Nat} {spare held : _} {fuel : Nat} {cs : List Value} {x : DataW H × List MemPlace}
    (h : DataW.trod enc P W base spare held fuel e cs = some x) : ∃ p q : Int, cs = [.int k p, .int k q] ∧ (Lit.int k p).wf = true ∧ (Lit.int k q).wf = true := by
  obtain ⟨xs, m, _, _, hl, hx, hf⟩ := DataW.trod_array he h
  rw [hce] at hl
  match cs, hl with
  | [c0, c1], _ =>
    have h0 := hf 0 (by omega)
    have h1 := hf 1 (by omega)
    rw [hci] at h0 h1
    match xs, hx with
    | [x0, x1], _ =>
      obtain ⟨p, e0, _, w0⟩ := DataW.trod_int hi (h0.trans (by rfl))
      obtain ⟨q, e1, _, w1⟩ := DataW.trod_int hi (h1.trans (by rfl))
      simp at e0 e1
      subst e0 e1
      exact ⟨p, q, rfl, w0, w1⟩
theorem isPairs_of {H : Type} {enc : TypeId × Value → H} {P : Program} {t e i : TypeId} {k : IntKind} (ht : P.underlying t = some (.slice e)) (he : P.underlying e = some (.array 2 i)) (hi : P.underlying i = some (.int k)) (hce : P.cellsOf e = 2) (hci : P.cellsOf i = 1) {W : World} {r : Reach} {b0 : Nat} {v : Value} {d : DataW H} {p : List MemPlace} {base : Nat} {spare held : _}
    (hv : Value.okWide P W r b0 t v) (h : DataW.Trod enc P W base spare held t v d p) : ∃ l, IsPairs k W v l := by
  obtain ⟨a0, len, cap, rfl⟩ := okWide_slice ht hv
  obtain ⟨fuel, hf⟩ := h
  rcases Deep.open_slice ht hf with ⟨hcs, _⟩ | ⟨x, l, c, m, n, D, Pl, hcs, _, hl, hm, hmm, _, hx⟩
  · simp [Value.cells] at hcs
    obtain ⟨rfl, rfl, rfl⟩ := hcs
    exact ⟨[], none, 0, rfl, Nat.zero_le _, fun i hi => absurd hi (Nat.not_lt_zero i), fun i hi => absurd hi (Nat.not_lt_zero i)⟩
  · simp [Value.cells] at hcs
    obtain ⟨rfl, rfl, rfl⟩ := hcs
    have hlm : len ≤ m := by rw [hmm]; split <;> omega
    obtain ⟨f, hf2⟩ := Deep.choose_lt (α := Int × Int) (n := len) (p := fun j q => W.cell? (x.add (j * 2)) = some (.int k q.1) ∧ W.cell? (x.add (j * 2 + 1)) = some (.int k q.2) ∧ (Lit.int k q.1).wf = true ∧ (Lit.int k q.2).wf = true) (fun j hj => by
      obtain ⟨cs', h1, h2⟩ := hx j (by omega)
      obtain ⟨p, q, rfl, w0, w1⟩ := two_of he hi hce hci h2
      rw [hce] at h1
      have h3 := (World.cells?_some h1).2.2
      have h4 := h3 0 (by omega)
      have h5 := h3 1 (by omega)
      rw [Addr.add_add] at h4 h5
      exact ⟨(p, q), by simpa using h4, by simpa using h5, w0, w1⟩)
    have hlen : ((List.range len).map f).length = len := by simp
    have hget : ∀ j, j < len → ((List.range len).map f).getD j (0, 0) = f j := fun j hj => by
      rw [List.getD_eq_getElem?_getD, List.getElem?_map, List.getElem?_range hj]; rfl
    refine ⟨(List.range len).map f, some x, cap, by rw [hlen], by rw [hlen]; omega, fun j hj => ?_, fun j hj => ?_⟩
    · rw [hlen] at hj
      rw [hget j hj]
      obtain ⟨h1, h2, _, _⟩ := hf2 j hj
      obtain ⟨h0, _⟩ := hf2 0 (by omega)
      obtain ⟨b, off, e1, hb, hc⟩ := cell_addrI h1 ⟨_, by simpa using h0⟩
      subst e1
      refine ⟨b, off, rfl, hb, hc, ?_⟩
      have e : (⟨b, off, none⟩ : Addr).add (j * 2 + 1) = ⟨b, off + j * 2 + 1, none⟩ := by rw [Addr.add_lit]; congr 1
      rwa [e] at h2
    · rw [hlen] at hj
      rw [hget j hj]
      exact ⟨(hf2 j hj).2.2.1, (hf2 j hj).2.2.2⟩
def IsTwo (k : IntKind) (v : Value) (l : Int × Int) : Prop := v = .agg #[.int k l.1, .int k l.2] ∧ (Lit.int k l.1).wf = true ∧ (Lit.int k l.2).wf = true
theorem isTwo_of {H : Type} {enc : TypeId × Value → H} {P : Program} {e i : TypeId} {k : IntKind} (he : P.underlying e = some (.array 2 i)) (hi : P.underlying i = some (.int k)) (hce : P.cellsOf e = 2) (hci : P.cellsOf i = 1) {W : World} {r : Reach} {b0 : Nat} {v : Value} {d : DataW H} {p : List MemPlace} {base : Nat} {spare held : _}
    (hv : Value.okWide P W r b0 e v) (h : DataW.Trod enc P W base spare held e v d p) : ∃ l, IsTwo k v l := by
  obtain ⟨cs, rfl, hsz, _⟩ : ∃ cs, v = .agg cs ∧ cs.size = P.cellsOf e ∧ Row.okWide P W r b0 e cs := by
    simpa [Value.okWide, he] using hv
  obtain ⟨fuel, hf⟩ := h
  obtain ⟨p, q, e1, w0, w1⟩ := two_of he hi hce hci hf
  obtain ⟨l⟩ := cs
  simp only [Value.cells] at e1
  exact ⟨(p, q), by rw [show l = [.int k p, .int k q] from e1], w0, w1⟩
end In
end Go.Proofs.Ytjdkkldlghdojaa
