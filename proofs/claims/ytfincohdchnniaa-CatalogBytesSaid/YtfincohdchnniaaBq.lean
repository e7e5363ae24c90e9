/- Texts put together: CatO. -/
import Derived.Test.YtfincohdchnniaaBh
import Derived.ChangeSlices
import Derived.Deep.SlicePairs
import Derived.Deep.Fields
set_option linter.all false
namespace Go.Proofs.Ytfincohdchnniaa
open Go.RowKit Go.WideShapes Go.WideElems Go.ChangeAt Go.ChangeShapes
namespace Cat
open Rec (BlueIn Stk Stks Came bchk inB)
theorem cat_cells : Try.prog.cellsOf 3 = 1 ∧ Try.prog.cellsOf 39 = 1 ∧ Try.prog.cellsOf 38 = 2 ∧ Try.prog.cellsOf 41 = 7 ∧ Try.prog.cellsOf 22 = 1 ∧ Try.prog.cellsOf 50 = 4 ∧ Try.prog.cellsOf 23 = 1 ∧ Try.prog.cellsOf 25 = 3 ∧ Try.prog.cellsOf 27 = 8 := ⟨by kernel_rfl, by kernel_rfl, by kernel_rfl, by kernel_rfl, by kernel_rfl, by kernel_rfl, by kernel_rfl, by kernel_rfl, by kernel_rfl⟩
theorem at_addr {w : World} {a : Addr} (h0 : ∃ v0, w.cell? (a.add 0) = some v0) : ∃ b off, a = ⟨b, off, none⟩ ∧ b < w.heap.size ∧ ∀ j, a.add j = ⟨b, off + j, none⟩ := by
  obtain ⟨b, off, spot⟩ := a
  obtain ⟨v0, h0⟩ := h0
  have hs : spot = none := by simpa [Addr.add] using World.cell?_spot h0
  subst hs
  have e : ∀ j, (⟨b, off, none⟩ : Addr).add j = ⟨b, off + j, none⟩ := fun j => by unfold Addr.add; split <;> simp_all
  rw [e] at h0
  exact ⟨b, off, rfl, World.block_lt_of_cell? _ _ h0, e⟩
section
variable {H : Type} {enc : TypeId × Value → H} {W : World} {base n : Nat} {spare : Nat → Bool} {held : Bool}
theorem slice_stks {v : Value} {y : DataW H × List MemPlace} (h : DataW.trod enc Try.prog W base spare held n 39 [v] = some y) : ∃ a l cap, v = .slice a l.length cap ∧ l.length ≤ maxLen ∧ Stks W a l ∧ ∀ k, k < l.length → In64 (l.getD k (0, 0)).1 ∧ In64 (l.getD k (0, 0)).2 := by
  rcases Go.Deep.open_slice_pairs Try.underlying39 Try.underlying38 cat_cells.2.2.1 rfl rfl cat_cells.1 cat_cells.1 h with ⟨hcs, _⟩ | ⟨x, len, cap, m, n', V0, V1, D0, D1, P0, P1, hcs, _, hl, hm, hmm, _, hcell⟩
  · simp at hcs
    subst hcs
    exact ⟨none, [], 0, rfl, Nat.zero_le _, fun i hi => absurd hi (Nat.not_lt_zero i), fun i hi => absurd hi (Nat.not_lt_zero i)⟩
  · simp at hcs
    subst hcs
    have hlz : len ≤ m := by rw [hmm]; split <;> omega
    have hll : ((List.range len).map fun i => ((intOf (V0 i), intOf (V1 i)) : Stk)).length = len := by simp
    have each : ∀ i, i < len → ((List.range len).map fun i => ((intOf (V0 i), intOf (V1 i)) : Stk)).getD i (0, 0) = (intOf (V0 i), intOf (V1 i)) := fun i hi => by simp [List.getD, hi]
    refine ⟨some x, (List.range len).map fun i => (intOf (V0 i), intOf (V1 i)), cap, by rw [hll], by rw [hll]; omega, fun i hi => ?_, fun i hi => ?_⟩
    · rw [hll] at hi
      obtain ⟨h0, h1, t0, t1⟩ := hcell i (by omega)
      obtain ⟨z0, e0, -, -⟩ := DataW.trod_int Try.underlying3 t0
      obtain ⟨z1, e1, -, -⟩ := DataW.trod_int Try.underlying3 t1
      simp at e0 e1
      obtain ⟨b, off, rfl, hb, hj⟩ := at_addr ⟨_, (hcell 0 (by omega)).1⟩
      rw [hj] at h0 h1
      refine ⟨b, off, rfl, hb, ?_, ?_⟩
      · rw [h0, each i hi, e0]; rfl
      · rw [show off + i * 2 + 1 = off + (i * 2 + 1) from rfl, h1, each i hi, e1]; rfl
    · rw [hll] at hi
      obtain ⟨h0, h1, t0, t1⟩ := hcell i (by omega)
      obtain ⟨z0, e0, -, w0⟩ := DataW.trod_int Try.underlying3 t0
      obtain ⟨z1, e1, -, w1⟩ := DataW.trod_int Try.underlying3 t1
      simp at e0 e1
      rw [each i hi, e0, e1]
      exact ⟨w0, w1⟩
/-- What is known of a blueprint that came. -/
def BlueCame (W : World) (b : BlueIn) : Prop := BlueNums b ∧ b.needs.length ≤ maxLen ∧ Stks W b.addr b.needs
theorem blue_of {cs : List Value} {y : DataW H × List MemPlace} (hl : cs.length = 7) (hf : DataW.trod enc Try.prog W base spare held n 41 cs = some y) : ∃ b : BlueIn, cs = b.val.toList ∧ BlueCame W b := by
  match cs, hl with
  | [c0, c1, c2, c3, c4, c5, c6], _ =>
    obtain ⟨xs, n, _, hx, _, hlen, hg⟩ := DataW.trod_struct Try.underlying41 hf
    match xs, hlen with
    | [y0, y1, y2, y3, y4, y5, y6], _ =>
      have k3 := cat_cells.1
      have k39 := cat_cells.2.1
      have g0 := hg 0 _ rfl
      have g1 := hg 1 _ rfl
      have g2 := hg 2 _ rfl
      have g3 := hg 3 _ rfl
      have g4 := hg 4 _ rfl
      have g5 := hg 5 _ rfl
      have g6 := hg 6 _ rfl
      simp [k3, k39] at g0 g1 g2 g3 g4 g5 g6
      obtain ⟨z0, e0, -, w0⟩ := DataW.trod_int Try.underlying3 g0
      obtain ⟨z1, e1, -, w1⟩ := DataW.trod_int Try.underlying3 g1
      obtain ⟨z2, e2, -, w2⟩ := DataW.trod_int Try.underlying3 g2
      obtain ⟨z4, e4, -, w4⟩ := DataW.trod_int Try.underlying3 g4
      obtain ⟨z5, e5, -, w5⟩ := DataW.trod_int Try.underlying3 g5
      obtain ⟨z6, e6, -, w6⟩ := DataW.trod_int Try.underlying3 g6
      simp at e0 e1 e2 e4 e5 e6
      obtain ⟨a, l, cap, rfl, hll, hst, hwf⟩ := slice_stks g3
      subst e0 e1 e2 e4 e5 e6
      exact ⟨⟨z0, z1, z2, l, a, cap, z4, z5, z6⟩, rfl, ⟨w0, w1, w2, w4, w5, w6, hwf⟩, hll, hst⟩
theorem bay_of {cs : List Value} {y : DataW H × List MemPlace} (hl : cs.length = 4) (hf : DataW.trod enc Try.prog W base spare held n 50 cs = some y) : ∃ b : BayIn, cs = b.val.toList ∧ BayNums b := by
  match cs, hl with
  | [c0, c1, c2, c3], _ =>
    obtain ⟨xs, n, _, hx, _, hlen, hg⟩ := DataW.trod_struct Try.underlying50 hf
    match xs, hlen with
    | [y0, y1, y2, y3], _ =>
      have k3 := cat_cells.1
      have g0 := hg 0 _ rfl
      have g1 := hg 1 _ rfl
      have g2 := hg 2 _ rfl
      have g3 := hg 3 _ rfl
      simp [k3] at g0 g1 g2 g3
      obtain ⟨z0, e0, -, w0⟩ := DataW.trod_int Try.underlying3 g0
      obtain ⟨z1, e1, -, w1⟩ := DataW.trod_int Try.underlying3 g1
      obtain ⟨z2, e2, -, w2⟩ := DataW.trod_int Try.underlying3 g2
      obtain ⟨z3, e3, -, w3⟩ := DataW.trod_int Try.underlying3 g3
      simp at e0 e1 e2 e3
      subst e0 e1 e2 e3
      exact ⟨⟨z0, z1, z2, z3⟩, rfl, ⟨w0, w1, w2, w3⟩⟩
theorem slice_blues {v : Value} {y : DataW H × List MemPlace} (h : DataW.trod enc Try.prog W base spare held n 22 [v] = some y) : ∃ a l cap, v = .slice a l.length cap ∧ l.length ≤ maxLen ∧ Blues W a l ∧ ∀ i, i < l.length → BlueCame W (l.getD i nob) := by
  rcases Go.Deep.open_slice Try.underlying22 h with ⟨hcs, _⟩ | ⟨x, len, cap, m, n', D, Pl, hcs, _, hl, hm, hmm, _, hcell⟩
  · simp at hcs
    subst hcs
    exact ⟨none, [], 0, rfl, Nat.zero_le _, fun i hi => absurd hi (Nat.not_lt_zero i), fun i hi => absurd hi (Nat.not_lt_zero i)⟩
  · simp at hcs
    subst hcs
    have hlz : len ≤ m := by rw [hmm]; split <;> omega
    have each : ∀ i, i < m → ∃ b : BlueIn, BlueCame W b ∧ ∀ j, j < 7 → W.cell? (x.add (i * 7 + j)) = b.val.toList[j]? := fun i hi => by
      obtain ⟨cs', h1, h2⟩ := hcell i hi
      rw [cat_cells.2.2.2.1] at h1
      obtain ⟨_, hlen, hc⟩ := World.cells?_some h1
      obtain ⟨b, hb, hbc⟩ := blue_of hlen h2
      refine ⟨b, hbc, fun j hj => ?_⟩
      have := hc j hj
      rw [Go.Deep.add_add] at this
      rw [this, ← hb]
    haveI : Inhabited BlueIn := ⟨nob⟩
    obtain ⟨B, hB⟩ := Go.Deep.choose_lt each
    have hll : ((List.range len).map B).length = len := by simp
    have eachL : ∀ i, i < len → ((List.range len).map B).getD i nob = B i := fun i hi => by simp [List.getD, hi]
    refine ⟨some x, (List.range len).map B, cap, by rw [hll], by rw [hll]; omega, fun i hi => ?_, fun i hi => ?_⟩
    · rw [hll] at hi
      have hc := (hB i (by omega)).2
      obtain ⟨b, off, rfl, hb, hj⟩ := at_addr ⟨_, ((hB 0 (by omega)).2 0 (by decide)).trans rfl⟩
      rw [eachL i hi]
      simp only [hj] at hc
      exact ⟨b, off, rfl, hb, hc 0 (by decide), hc 1 (by decide), hc 2 (by decide), hc 3 (by decide), hc 4 (by decide), hc 5 (by decide), hc 6 (by decide)⟩
    · rw [hll] at hi
      rw [eachL i hi]
      exact (hB i (by omega)).1
theorem slice_bays {v : Value} {y : DataW H × List MemPlace} (h : DataW.trod enc Try.prog W base spare held n 23 [v] = some y) : ∃ a l cap, v = .slice a l.length cap ∧ l.length ≤ maxLen ∧ Bays W a l ∧ ∀ i, i < l.length → BayNums (l.getD i noy) := by
  rcases Go.Deep.open_slice Try.underlying23 h with ⟨hcs, _⟩ | ⟨x, len, cap, m, n', D, Pl, hcs, _, hl, hm, hmm, _, hcell⟩
  · simp at hcs
    subst hcs
    exact ⟨none, [], 0, rfl, Nat.zero_le _, fun i hi => absurd hi (Nat.not_lt_zero i), fun i hi => absurd hi (Nat.not_lt_zero i)⟩
  · simp at hcs
    subst hcs
    have hlz : len ≤ m := by rw [hmm]; split <;> omega
    have each : ∀ i, i < m → ∃ b : BayIn, BayNums b ∧ ∀ j, j < 4 → W.cell? (x.add (i * 4 + j)) = b.val.toList[j]? := fun i hi => by
      obtain ⟨cs', h1, h2⟩ := hcell i hi
      rw [cat_cells.2.2.2.2.2.1] at h1
      obtain ⟨_, hlen, hc⟩ := World.cells?_some h1
      obtain ⟨b, hb, hbc⟩ := bay_of hlen h2
      refine ⟨b, hbc, fun j hj => ?_⟩
      have := hc j hj
      rw [Go.Deep.add_add] at this
      rw [this, ← hb]
    haveI : Inhabited BayIn := ⟨noy⟩
    obtain ⟨B, hB⟩ := Go.Deep.choose_lt each
    have hll : ((List.range len).map B).length = len := by simp
    have eachL : ∀ i, i < len → ((List.range len).map B).getD i noy = B i := fun i hi => by simp [List.getD, hi]
    refine ⟨some x, (List.range len).map B, cap, by rw [hll], by rw [hll]; omega, fun i hi => ?_, fun i hi => ?_⟩
    · rw [hll] at hi
      have hc := (hB i (by omega)).2
      obtain ⟨b, off, rfl, hb, hj⟩ := at_addr ⟨_, ((hB 0 (by omega)).2 0 (by decide)).trans rfl⟩
      rw [eachL i hi]
      simp only [hj] at hc
      exact ⟨b, off, rfl, hb, hc 0 (by decide), hc 1 (by decide), hc 2 (by decide), hc 3 (by decide)⟩
    · rw [hll] at hi
      rw [eachL i hi]
      exact (hB i (by omega)).1
end
/-- A catalogue that came. -/
def IsCat (W : World) (v : Value) (c : CatIn) : Prop := v = .agg c.val ∧ Lies W c ∧ Nums c ∧ c.blues.length ≤ maxLen ∧ c.bays.length ≤ maxLen ∧ ∀ i, i < c.blues.length → (c.blues.getD i nob).needs.length ≤ maxLen
set_option maxRecDepth 100000 in
theorem isCat_of {H : Type} {enc : TypeId × Value → H} {W : World} {r : Reach} {b0 : Nat} {v : Value} {d : DataW H} {p : List MemPlace} {base : Nat} {spare held : _}
    (hv : Value.okWide Try.prog W r b0 27 v) (h : DataW.Trod enc Try.prog W base spare held 27 v d p) : ∃ c, IsCat W v c := by
  obtain ⟨cs, rfl, hsz⟩ := okWide_struct Try.underlying27 hv
  rw [cat_cells.2.2.2.2.2.2.2.2] at hsz
  obtain ⟨l⟩ := cs
  match l, hsz with
  | [c0, c1, c2, c3, c4, c5, c6, c7], _ =>
    obtain ⟨fuel, hf⟩ := h
    obtain ⟨xs, n, _, hx, _, hlen, hg⟩ := DataW.trod_struct Try.underlying27 hf
    match xs, hlen with
    | [y0, y1, y2, y3, y4, y5], _ =>
      have k3 := cat_cells.1
      have k22 := cat_cells.2.2.2.2.1
      have k23 := cat_cells.2.2.2.2.2.2.1
      have k25 := cat_cells.2.2.2.2.2.2.2.1
      have g0 := hg 0 _ rfl
      have g1 := hg 1 _ rfl
      have g2 := hg 2 _ rfl
      have g3 := hg 3 _ rfl
      have g4 := hg 4 _ rfl
      have g5 := hg 5 _ rfl
      simp [Value.cells, k3, k22, k23, k25] at g0 g1 g2 g3 g4 g5
      obtain ⟨z0, e0, -, w0⟩ := DataW.trod_int Try.underlying3 g0
      obtain ⟨z2, e2, -, w2⟩ := DataW.trod_int Try.underlying3 g2
      obtain ⟨z4, e4, -, w4⟩ := DataW.trod_int Try.underlying3 g4
      simp at e0 e2 e4
      obtain ⟨ba, bl, bc, rfl, hbl, hbb, hbc⟩ := slice_blues g1
      obtain ⟨ya, yl, yc, rfl, hyl, hyb, hyc⟩ := slice_bays g3
      obtain ⟨us, m, _, hu, _, hulen, hug⟩ := DataW.trod_struct Try.underlying25 g5
      match us, hulen with
      | [u0, u1, u2], _ =>
        have f0 := hug 0 _ rfl
        have f1 := hug 1 _ rfl
        have f2 := hug 2 _ rfl
        simp [k3] at f0 f1 f2
        obtain ⟨z5, e5, -, w5⟩ := DataW.trod_int Try.underlying3 f0
        obtain ⟨z6, e6, -, w6⟩ := DataW.trod_int Try.underlying3 f1
        obtain ⟨z7, e7, -, w7⟩ := DataW.trod_int Try.underlying3 f2
        simp at e5 e6 e7
        subst e0 e2 e4 e5 e6 e7
        exact ⟨⟨z0, bl, ba, bc, z2, yl, ya, yc, z4, z5, z6, z7⟩, rfl, ⟨hbb, hyb, fun i hi => (hbc i hi).2.2⟩, ⟨w0, w2, w4, w5, w6, w7, fun i hi => (hbc i hi).1, hyc⟩, hbl, hyl, fun i hi => (hbc i hi).2.1⟩
end Cat
end Go.Proofs.Ytfincohdchnniaa
