/- Slices of integers that came in: what a walk is told of them. -/
import Derived.Test.YtnbmjbelmcibgaaChecked
import Derived.WalkKit
import Derived.ProofKit
import Derived.Below
import Derived.ChangeSlices
namespace Go.Proofs.Ytnbmjbelmcibgaa
open Go.RowKit Go.WideShapes Go.WideElems Go.ChangeAt Go.ChangeShapes
namespace In
/-- The integers that stand from an address on. -/
def Ints (k : IntKind) (w : World) (a : Option Addr) (l : List Int) : Prop :=
  ∀ i, i < l.length → ∃ b off, a = some ⟨b, off, none⟩ ∧ b < w.heap.size ∧ w.cell? ⟨b, off + i, none⟩ = some (.int k (l.getD i 0))
def IsInts (k : IntKind) (w : World) (v : Value) (l : List Int) : Prop :=
  ∃ a cap, v = .slice a l.length cap ∧ l.length ≤ maxLen ∧ Ints k w a l ∧ (∀ n ∈ l, (Lit.int k n).wf = true) ∧ l.length ≤ cap ∧ cap ≤ maxLen
theorem Ints.below {k : IntKind} {w w' : World} {a : Option Addr} {l : List Int} (h : Ints k w a l) (hb : Below w.heap.size w w') : Ints k w' a l := fun i hi => by
  obtain ⟨b, off, ha, hlt, hc⟩ := h i hi
  exact ⟨b, off, ha, Nat.lt_of_lt_of_le hlt hb.size, (hb.cell (p := ⟨b, off + i, none⟩) hlt).trans hc⟩
theorem cell_addrI {w : World} {a : Addr} {i : Nat} {v : Value} (h : w.cell? (a.add i) = some v) (h0 : ∃ v0, w.cell? (a.add 0) = some v0) : ∃ b off, a = ⟨b, off, none⟩ ∧ b < w.heap.size ∧ w.cell? ⟨b, off + i, none⟩ = some v := by
  obtain ⟨b, off, spot⟩ := a
  obtain ⟨v0, h0⟩ := h0
  have hs : spot = none := by simpa [Addr.add] using World.cell?_spot h0
  subst hs
  refine ⟨b, off, rfl, block_lt_of_cell h0, ?_⟩
  have e : (⟨b, off, none⟩ : Addr).add i = ⟨b, off + i, none⟩ := by unfold Addr.add; split <;> simp_all
  rwa [e] at h
theorem isInts_of {H : Type} {enc : TypeId × Value → H} {P : Program} {t e : TypeId} {k : IntKind} (ht : P.underlying t = some (.slice e)) (he : P.underlying e = some (.int k)) (hc : P.cellsOf e = 1) {W : World} {r : Reach} {b0 : Nat} {v : Value} {d : DataW H} {p : List MemPlace} {base : Nat} {spare held : _}
    (hv : Value.okWide P W r b0 t v) (h : DataW.Trod enc P W base spare held t v d p) : ∃ l, IsInts k W v l := by
  obtain ⟨a0, len, cap, rfl⟩ := okWide_slice ht hv
  obtain ⟨fuel, hf⟩ := h
  rcases open_ints ht he hc hf with ⟨hcs, _⟩ | ⟨x, l, c, ss, hcs, _, hl, hm, hz, _, hcell, hws⟩
  · simp [Value.cells] at hcs
    obtain ⟨rfl, rfl, rfl⟩ := hcs
    exact ⟨[], none, 0, rfl, Nat.zero_le _, fun i hi => absurd hi (Nat.not_lt_zero i), fun s hs => (by cases hs), Nat.le_refl _, Nat.zero_le _⟩
  · simp [Value.cells] at hcs
    obtain ⟨rfl, rfl, rfl⟩ := hcs
    have hlz : len ≤ ss.length := by rw [hz]; split <;> omega
    refine ⟨ss.take len, some x, cap, by rw [List.length_take, Nat.min_eq_left hlz], by rw [List.length_take]; omega, fun i hi => ?_, fun s hs => hws s (List.mem_of_mem_take hs), by rw [List.length_take]; omega, hm⟩
    rw [List.length_take, Nat.min_eq_left hlz] at hi
    obtain ⟨b, off, rfl, hb, hc⟩ := cell_addrI (hcell i (by omega)) ⟨_, hcell 0 (by omega)⟩
    refine ⟨b, off, rfl, hb, ?_⟩
    rw [hc]
    simp [List.getD, hi]
end In
end Go.Proofs.Ytnbmjbelmcibgaa
