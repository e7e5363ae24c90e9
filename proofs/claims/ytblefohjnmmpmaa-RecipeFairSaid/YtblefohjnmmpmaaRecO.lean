/- A blueprint that came in as an argument. -/
import Derived.Test.YtblefohjnmmpmaaRecB
import Derived.ChangeSlices
import Derived.Deep.SlicePairs
import Derived.Deep.Fields
namespace Go.Proofs.Ytblefohjnmmpmaa
open Go.RowKit Go.WideShapes Go.WideElems Go.ChangeAt Go.ChangeShapes
namespace Rec
def IsBlue (W : World) (v : Value) (b : BlueIn) : Prop := v = .agg b.val ∧ b.needs.length ≤ maxLen ∧ Stks W b.addr b.needs ∧ (∀ k, k < b.needs.length → (Lit.int .i64 (b.needs.getD k (0, 0)).1).wf = true) ∧ (Lit.int .i64 b.makes).wf = true
theorem blue_cells : Try.prog.cellsOf 24 = 7 ∧ Try.prog.cellsOf 3 = 1 ∧ Try.prog.cellsOf 22 = 1 ∧ Try.prog.cellsOf 30 = 2 := ⟨by kernel_rfl, by kernel_rfl, by kernel_rfl, by kernel_rfl⟩
theorem pair_addr {w : World} {a : Addr} {i : Nat} {u v : Value} (h : w.cell? (a.add (i * 2)) = some u) (h2 : w.cell? (a.add (i * 2 + 1)) = some v) (h0 : ∃ v0, w.cell? (a.add 0) = some v0) : ∃ b off, a = ⟨b, off, none⟩ ∧ b < w.heap.size ∧ w.cell? ⟨b, off + i * 2, none⟩ = some u ∧ w.cell? ⟨b, off + i * 2 + 1, none⟩ = some v := by
  obtain ⟨b, off, spot⟩ := a
  obtain ⟨v0, h0⟩ := h0
  have hs : spot = none := by simpa [Addr.add] using World.cell?_spot h0
  subst hs
  have e : ∀ j, (⟨b, off, none⟩ : Addr).add j = ⟨b, off + j, none⟩ := fun j => by unfold Addr.add; split <;> simp_all
  rw [e] at h h2
  exact ⟨b, off, rfl, block_lt_of_cell h0, h, h2⟩
theorem slice_stks {H : Type} {enc : TypeId × Value → H} {W : World} {v : Value} {y : DataW H × List MemPlace} {base n : Nat} {spare : Nat → Bool} {held : Bool}
    (h : DataW.trod enc Try.prog W base spare held n 22 [v] = some y) : ∃ a l cap, v = .slice a l.length cap ∧ l.length ≤ maxLen ∧ Stks W a l ∧ ∀ k, k < l.length → (Lit.int .i64 (l.getD k (0, 0)).1).wf = true := by
  rcases Go.Deep.open_slice_pairs Try.underlying22 Try.underlying30 blue_cells.2.2.2 rfl rfl blue_cells.2.1 blue_cells.2.1 h with ⟨hcs, _⟩ | ⟨x, len, cap, m, n', V0, V1, D0, D1, P0, P1, hcs, _, hl, hm, hmm, _, hcell⟩
  · simp at hcs
    subst hcs
    exact ⟨none, [], 0, rfl, Nat.zero_le _, fun i hi => absurd hi (Nat.not_lt_zero i), fun i hi => absurd hi (Nat.not_lt_zero i)⟩
  · simp at hcs
    subst hcs
    have hlz : len ≤ m := by rw [hmm]; split <;> omega
    have hll : ((List.range len).map fun i => ((intOf (V0 i), intOf (V1 i)) : Stk)).length = len := by simp
    have each : ∀ i, i < len → ((List.range len).map fun i => ((intOf (V0 i), intOf (V1 i)) : Stk)).getD i (0, 0) = (intOf (V0 i), intOf (V1 i)) := fun i hi => by simp [List.getD, hi]
    refine ⟨some x, (List.range len).map fun i => (intOf (V0 i), intOf (V1 i)), cap, by rw [hll], by rw [hll]; omega, fun i hi => ?_, fun i hi => ?_⟩
    · rw [hll] at hi
      obtain ⟨h0, h1, t0, t1⟩ := hcell i (by omega)
      obtain ⟨z0, e0, -, -⟩ := DataW.trod_int Try.underlying3 t0
      obtain ⟨z1, e1, -, -⟩ := DataW.trod_int Try.underlying3 t1
      simp at e0 e1
      obtain ⟨b, off, rfl, hb, hc, hd⟩ := pair_addr h0 h1 ⟨_, (hcell 0 (by omega)).1⟩
      refine ⟨b, off, rfl, hb, ?_, ?_⟩
      · rw [hc, each i hi, e0]; rfl
      · rw [hd, each i hi, e1]; rfl
    · rw [hll] at hi
      obtain ⟨h0, h1, t0, t1⟩ := hcell i (by omega)
      obtain ⟨z0, e0, -, w0⟩ := DataW.trod_int Try.underlying3 t0
      simp at e0
      rw [each i hi, e0]
      exact w0
theorem isBlue_of {H : Type} {enc : TypeId × Value → H} {W : World} {r : Reach} {b0 : Nat} {v : Value} {d : DataW H} {p : List MemPlace} {base : Nat} {spare held : _}
    (hv : Value.okWide Try.prog W r b0 24 v) (h : DataW.Trod enc Try.prog W base spare held 24 v d p) : ∃ b, IsBlue W v b := by
  obtain ⟨cs, rfl, hsz⟩ := okWide_struct Try.underlying24 hv
  rw [blue_cells.1] at hsz
  obtain ⟨l⟩ := cs
  match l, hsz with
  | [c0, c1, c2, c3, c4, c5, c6], _ =>
    obtain ⟨fuel, hf⟩ := h
    obtain ⟨xs, n, _, hx, _, hlen, hg⟩ := DataW.trod_struct Try.underlying24 hf
    match xs, hlen with
    | [y0, y1, y2, y3, y4, y5, y6], _ =>
      have k3 := blue_cells.2.1
      have k22 := blue_cells.2.2.1
      have g0 := hg 0 _ rfl
      have g1 := hg 1 _ rfl
      have g2 := hg 2 _ rfl
      have g3 := hg 3 _ rfl
      have g4 := hg 4 _ rfl
      have g5 := hg 5 _ rfl
      have g6 := hg 6 _ rfl
      simp [Value.cells, k3, k22] at g0 g1 g2 g3 g4 g5 g6
      obtain ⟨z0, e0, -, w0⟩ := DataW.trod_int Try.underlying3 g0
      obtain ⟨z1, e1, -, w1⟩ := DataW.trod_int Try.underlying3 g1
      obtain ⟨z2, e2, -, w2⟩ := DataW.trod_int Try.underlying3 g2
      obtain ⟨z4, e4, -, w4⟩ := DataW.trod_int Try.underlying3 g4
      obtain ⟨z5, e5, -, w5⟩ := DataW.trod_int Try.underlying3 g5
      obtain ⟨z6, e6, -, w6⟩ := DataW.trod_int Try.underlying3 g6
      simp at e0 e1 e2 e4 e5 e6
      obtain ⟨a, l, cap, rfl, hl, hst, hwf⟩ := slice_stks g3
      subst e0 e1 e2 e4 e5 e6
      exact ⟨⟨z0, z1, z2, l, a, cap, z4, z5, z6⟩, rfl, hl, hst, hwf, w0⟩
end Rec
end Go.Proofs.Ytblefohjnmmpmaa
