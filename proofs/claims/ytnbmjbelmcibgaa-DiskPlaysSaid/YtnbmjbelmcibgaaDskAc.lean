/- Acts that came in. -/
import Derived.Test.YtnbmjbelmcibgaaDskTw
import Derived.ChangeSlices
import Derived.Deep.SlicePairs
import Derived.Deep.Fields
set_option linter.unusedSimpArgs false
set_option linter.unusedVariables false
namespace Go.Proofs.Ytnbmjbelmcibgaa
open Go.RowKit Go.WideShapes Go.WideElems Go.ChangeAt Go.ChangeShapes
namespace Dsk
theorem act_cells : Try.prog.cellsOf 3 = 1 ∧ Try.prog.cellsOf 9 = 1 ∧ Try.prog.cellsOf 4 = 1 ∧ Try.prog.cellsOf 23 = 1 ∧ Try.prog.cellsOf 40 = 6 := ⟨by kernel_rfl, by kernel_rfl, by kernel_rfl, by kernel_rfl, by kernel_rfl⟩
theorem at_addr {w : World} {a : Addr} (h0 : ∃ v0, w.cell? (a.add 0) = some v0) : ∃ b off, a = ⟨b, off, none⟩ ∧ b < w.heap.size ∧ ∀ j, a.add j = ⟨b, off + j, none⟩ := by
  obtain ⟨b, off, spot⟩ := a
  obtain ⟨v0, h0⟩ := h0
  have hs : spot = none := by simpa [Addr.add] using World.cell?_spot h0
  subst hs
  have e : ∀ j, (⟨b, off, none⟩ : Addr).add j = ⟨b, off + j, none⟩ := fun j => by unfold Addr.add; split <;> simp_all
  rw [e] at h0
  exact ⟨b, off, rfl, World.block_lt_of_cell? _ _ h0, e⟩
def noA : ActB := ⟨⟨0, 0, [], [], false, []⟩, none, 0⟩
/-- What came in as an act, its strings' lengths too. -/
structure ActIs (W : World) (b : ActB) : Prop where
  came : ActCame W b
  kind : (Lit.int .i64 b.a.kind).wf = true
  name : b.a.name.length ≤ maxLen
  arg : b.a.arg.length ≤ maxLen
/-- The acts that stand from an address on. -/
def Acts (W : World) (a : Option Addr) (l : List ActB) : Prop :=
  ∀ i, i < l.length → ∃ b off, a = some ⟨b, off, none⟩ ∧ b < W.heap.size ∧ ∀ j, j < 6 → W.cell? ⟨b, off + (i * 6 + j), none⟩ = (l.getD i noA).val[j]?
section
variable {H : Type} {enc : TypeId × Value → H} {W : World} {base n : Nat} {spare : Nat → Bool} {held : Bool}
theorem slice_ints {v : Value} {y : DataW H × List MemPlace} (h : DataW.trod enc Try.prog W base spare held n 23 [v] = some y) : ∃ a l cap, v = .slice a l.length cap ∧ In.IsInts .i64 W (.slice a l.length cap) l := by
  rcases open_ints Try.underlying23 Try.underlying3 act_cells.1 h with ⟨hcs, _⟩ | ⟨x, l, c, ss, hcs, _, hl, hm, hz, _, hcell, hws⟩
  · simp at hcs
    subst hcs
    exact ⟨none, [], 0, rfl, ints_nil W⟩
  · simp at hcs
    subst hcs
    have hlz : l ≤ ss.length := by rw [hz]; split <;> omega
    have hll : (ss.take l).length = l := by rw [List.length_take, Nat.min_eq_left hlz]
    refine ⟨some x, ss.take l, c, by rw [hll], some x, c, rfl, by rw [hll]; omega, fun i hi => ?_, fun s hs => hws s (List.mem_of_mem_take hs), by rw [hll]; omega, hm⟩
    rw [hll] at hi
    obtain ⟨b, off, rfl, hb, hc⟩ := In.cell_addrI (hcell i (by omega)) ⟨_, hcell 0 (by omega)⟩
    refine ⟨b, off, rfl, hb, ?_⟩
    rw [hc]
    simp [List.getD, hi]
theorem act_of {cs : List Value} {y : DataW H × List MemPlace} (hl : cs.length = 6) (hf : DataW.trod enc Try.prog W base spare held n 40 cs = some y) : ∃ b : ActB, cs = b.val.toList ∧ ActIs W b := by
  match cs, hl with
  | [c0, c1, c2, c3, c4, c5], _ =>
    obtain ⟨xs, n, _, hx, _, hlen, hg⟩ := DataW.trod_struct Try.underlying40 hf
    match xs, hlen with
    | [y0, y1, y2, y3, y4, y5], _ =>
      have k1 := act_cells.1
      have k2 := act_cells.2.1
      have k3 := act_cells.2.2.1
      have k4 := act_cells.2.2.2.1
      have g0 := hg 0 _ rfl
      have g1 := hg 1 _ rfl
      have g2 := hg 2 _ rfl
      have g3 := hg 3 _ rfl
      have g4 := hg 4 _ rfl
      have g5 := hg 5 _ rfl
      simp [k1, k2, k3, k4] at g0 g1 g2 g3 g4 g5
      obtain ⟨z0, e0, -, w0⟩ := DataW.trod_int Try.underlying3 g0
      obtain ⟨z1, e1, -, w1⟩ := DataW.trod_int Try.underlying3 g1
      obtain ⟨s2, e2, -, w2⟩ := DataW.trod_string Try.underlying9 g2
      obtain ⟨s3, e3, -, w3⟩ := DataW.trod_string Try.underlying9 g3
      obtain ⟨b4, e4, -⟩ := DataW.trod_bool Try.underlying4 g4
      simp at e0 e1 e2 e3 e4
      obtain ⟨a, l, cap, rfl, hin⟩ := slice_ints g5
      subst e0 e1 e2 e3 e4
      refine ⟨⟨⟨z0, z1, s2.data.toList, s3.data.toList, b4, l⟩, a, cap⟩, rfl, ⟨hin, ?_⟩, w0, ?_, ?_⟩
      · simp [Lit.wf, IntKind.min, IntKind.max, IntKind.signed, IntKind.bits] at w1
        exact w1.2
      · show s2.data.toList.length ≤ _
        rw [Array.length_toList]; exact w2
      · show s3.data.toList.length ≤ _
        rw [Array.length_toList]; exact w3
theorem slice_acts {v : Value} {y : DataW H × List MemPlace} (h : DataW.trod enc Try.prog W base spare held n 37 [v] = some y) : ∃ a l cap, v = .slice a l.length cap ∧ l.length ≤ maxLen ∧ Acts W a l ∧ ∀ i, i < l.length → ActIs W (l.getD i noA) := by
  rcases Go.Deep.open_slice Try.underlying37 h with ⟨hcs, _⟩ | ⟨x, len, cap, m, n', D, Pl, hcs, _, hl, hm, hmm, _, hcell⟩
  · simp at hcs
    subst hcs
    exact ⟨none, [], 0, rfl, Nat.zero_le _, fun i hi => absurd hi (Nat.not_lt_zero i), fun i hi => absurd hi (Nat.not_lt_zero i)⟩
  · simp at hcs
    subst hcs
    have hlz : len ≤ m := by rw [hmm]; split <;> omega
    have each : ∀ i, i < m → ∃ b : ActB, ActIs W b ∧ ∀ j, j < 6 → W.cell? (x.add (i * 6 + j)) = b.val.toList[j]? := fun i hi => by
      obtain ⟨cs', h1, h2⟩ := hcell i hi
      rw [act_cells.2.2.2.2] at h1
      obtain ⟨_, hlen, hc⟩ := World.cells?_some h1
      obtain ⟨b, hb, hbc⟩ := act_of hlen h2
      refine ⟨b, hbc, fun j hj => ?_⟩
      have := hc j hj
      rw [Go.Deep.add_add] at this
      rw [this, ← hb]
    haveI : Inhabited ActB := ⟨noA⟩
    obtain ⟨B, hB⟩ := Go.Deep.choose_lt each
    have hll : ((List.range len).map B).length = len := by simp
    have eachL : ∀ i, i < len → ((List.range len).map B).getD i noA = B i := fun i hi => by simp [List.getD, hi]
    refine ⟨some x, (List.range len).map B, cap, by rw [hll], by rw [hll]; omega, fun i hi => ?_, fun i hi => ?_⟩
    · rw [hll] at hi
      have hc := (hB i (by omega)).2
      obtain ⟨b, off, rfl, hb, hj⟩ := at_addr ⟨_, by have := (hB 0 (by omega)).2 0 (by omega); simpa [ActB.val] using this⟩
      refine ⟨b, off, rfl, hb, fun j hj6 => ?_⟩
      have := hc j hj6
      rw [hj] at this
      rw [this, eachL i hi]
      simp
    · rw [hll] at hi
      rw [eachL i hi]
      exact (hB i (by omega)).1
end
/-- The acts that came in. -/
def IsActs (W : World) (v : Value) (l : List ActB) : Prop := ∃ a cap, v = .slice a l.length cap ∧ l.length ≤ maxLen ∧ Acts W a l ∧ ∀ i, i < l.length → ActIs W (l.getD i noA)
set_option maxRecDepth 100000 in
theorem isActs_of {H : Type} {enc : TypeId × Value → H} {W : World} {r : Reach} {b0 : Nat} {v : Value} {d : DataW H} {p : List MemPlace} {base : Nat} {spare held : _}
    (hv : Value.okWide Try.prog W r b0 37 v) (h : DataW.Trod enc Try.prog W base spare held 37 v d p) : ∃ l, IsActs W v l := by
  obtain ⟨a0, len, cap0, rfl⟩ := okWide_slice Try.underlying37 hv
  obtain ⟨fuel, hf⟩ := h
  obtain ⟨a, l, cap, e, h1, h2, h3⟩ := slice_acts hf
  exact ⟨l, a, cap, e, h1, h2, h3⟩
def IsAct (W : World) (v : Value) (b : ActB) : Prop := v = .agg b.val ∧ ActIs W b
set_option maxRecDepth 100000 in
theorem isAct_of {H : Type} {enc : TypeId × Value → H} {W : World} {r : Reach} {b0 : Nat} {v : Value} {d : DataW H} {p : List MemPlace} {base : Nat} {spare held : _}
    (hv : Value.okWide Try.prog W r b0 40 v) (h : DataW.Trod enc Try.prog W base spare held 40 v d p) : ∃ b, IsAct W v b := by
  obtain ⟨cs, rfl, hsz⟩ := okWide_struct Try.underlying40 hv
  rw [act_cells.2.2.2.2] at hsz
  obtain ⟨fuel, hf⟩ := h
  obtain ⟨b, hb, hbc⟩ := act_of (cs := cs.toList) (by simpa using hsz) (by simpa [Value.cells] using hf)
  refine ⟨b, ?_, hbc⟩
  congr 1
  exact Array.toList_inj.1 hb
theorem Acts.below {W W' : World} {a : Option Addr} {l : List ActB} (h : Acts W a l) (hb : Below W.heap.size W W') : Acts W' a l := fun i hi => by
  obtain ⟨b, off, ha, hlt, hc⟩ := h i hi
  exact ⟨b, off, ha, Nat.lt_of_lt_of_le hlt hb.size, fun j hj => (hb.cell (p := ⟨b, off + (i * 6 + j), none⟩) hlt).trans (hc j hj)⟩
end Dsk
end Go.Proofs.Ytnbmjbelmcibgaa
