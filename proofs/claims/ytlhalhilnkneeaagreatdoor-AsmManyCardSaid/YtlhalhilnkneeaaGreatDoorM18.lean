/- Texts put together: CmdO. -/
import Derived.Test.YtlhalhilnkneeaaGreatDoorM17
import Derived.ChangeSlices
import Derived.Deep.SlicePairs
import Derived.Deep.Fields
set_option linter.all false
section
namespace Go.Proofs.YtlhalhilnkneeaaGreatDoor
open Go.RowKit Go.WideShapes Go.WideElems Go.ChangeAt Go.ChangeShapes
namespace Cmd
open Rec (Stk Stks)
open Pen (I64)
def WfI (z : Int) : Prop := (Lit.int .i64 z).wf = true
theorem WfI.i64 {z : Int} (h : WfI z) : I64 z := by
  unfold WfI at h
  simp [Lit.wf] at h
  exact h
theorem cmd_cells : Tryz.prog.cellsOf 3 = 1 ∧ Tryz.prog.cellsOf 39 = 1 ∧ Tryz.prog.cellsOf 106 = 2 ∧ Tryz.prog.cellsOf 41 = 22 := ⟨by kernel_rfl, by kernel_rfl, by kernel_rfl, by kernel_rfl⟩
theorem at_addr {w : World} {a : Addr} (h0 : ∃ v0, w.cell? (a.add 0) = some v0) : ∃ b off, a = ⟨b, off, none⟩ ∧ b < w.heap.size ∧ ∀ j, a.add j = ⟨b, off + j, none⟩ := by
  obtain ⟨b, off, spot⟩ := a
  obtain ⟨v0, h0⟩ := h0
  have hs : spot = none := by simpa [Addr.add] using World.cell?_spot h0
  subst hs
  have e : ∀ j, (⟨b, off, none⟩ : Addr).add j = ⟨b, off + j, none⟩ := fun j => by unfold Addr.add; split <;> simp_all
  rw [e] at h0
  exact ⟨b, off, rfl, World.block_lt_of_cell? _ _ h0, e⟩
section
variable {H : Type} {enc : TypeId × Value → H} {W : World} {base n : Nat} {spare : Nat → Bool} {held : Bool}
theorem slice_stks {v : Value} {y : DataW H × List MemPlace} (h : DataW.trod enc Tryz.prog W base spare held n 39 [v] = some y) : ∃ a l cap, v = .slice a l.length cap ∧ l.length ≤ maxLen ∧ Stks W a l ∧ ∀ k, k < l.length → WfI (l.getD k (0, 0)).1 ∧ WfI (l.getD k (0, 0)).2 := by
  rcases Go.Deep.open_slice_pairs Tryz.underlying39 Tryz.underlying106 cmd_cells.2.2.1 rfl rfl cmd_cells.1 cmd_cells.1 h with ⟨hcs, _⟩ | ⟨x, len, cap, m, n', V0, V1, D0, D1, P0, P1, hcs, _, hl, hm, hmm, _, hcell⟩
  · simp at hcs
    subst hcs
    exact ⟨none, [], 0, rfl, Nat.zero_le _, fun i hi => absurd hi (Nat.not_lt_zero i), fun i hi => absurd hi (Nat.not_lt_zero i)⟩
  · simp at hcs
    subst hcs
    have hlz : len ≤ m := by rw [hmm]; split <;> omega
    have hll : ((List.range len).map fun i => ((intOf (V0 i), intOf (V1 i)) : Stk)).length = len := by simp
    have each : ∀ i, i < len → ((List.range len).map fun i => ((intOf (V0 i), intOf (V1 i)) : Stk)).getD i (0, 0) = (intOf (V0 i), intOf (V1 i)) := fun i hi => by simp [List.getD, hi]
    refine ⟨some x, (List.range len).map fun i => (intOf (V0 i), intOf (V1 i)), cap, by rw [hll], by rw [hll]; omega, fun i hi => ?_, fun i hi => ?_⟩
    · rw [hll] at hi
      obtain ⟨h0, h1, t0, t1⟩ := hcell i (by omega)
      obtain ⟨z0, e0, -, -⟩ := DataW.trod_int Tryz.underlying3 t0
      obtain ⟨z1, e1, -, -⟩ := DataW.trod_int Tryz.underlying3 t1
      simp at e0 e1
      obtain ⟨b, off, rfl, hb, hj⟩ := at_addr ⟨_, (hcell 0 (by omega)).1⟩
      rw [hj] at h0 h1
      refine ⟨b, off, rfl, hb, ?_, ?_⟩
      · rw [h0, each i hi, e0]; rfl
      · rw [show off + i * 2 + 1 = off + (i * 2 + 1) from rfl, h1, each i hi, e1]; rfl
    · rw [hll] at hi
      obtain ⟨h0, h1, t0, t1⟩ := hcell i (by omega)
      obtain ⟨z0, e0, -, w0⟩ := DataW.trod_int Tryz.underlying3 t0
      obtain ⟨z1, e1, -, w1⟩ := DataW.trod_int Tryz.underlying3 t1
      simp at e0 e1
      rw [each i hi, e0, e1]
      exact ⟨w0, w1⟩
end
/-- What is known of a command that came. -/
structure IsCmd (W : World) (v : Value) (c : CmdIn) : Prop where
  val : v = .agg c.val
  lies : Lies W c
  kind : I64 c.kind
  num : ∀ i, i < 19 → I64 (c.num i)
  gives : Snum c.gives
  wants : Snum c.wants
  clear : Clear c
theorem IsCmd.cok {W : World} {v : Value} {c : CmdIn} (h : IsCmd W v c) (hf : c.gives.length ≤ 100 ∧ c.wants.length ≤ 100) : Cok c := ⟨h.kind, h.num, h.gives, h.wants, hf⟩
set_option maxRecDepth 100000 in
set_option maxHeartbeats 2000000 in
theorem isCmd_of {H : Type} {enc : TypeId × Value → H} {W : World} {r : Reach} {b0 : Nat} {v : Value} {d : DataW H} {p : List MemPlace} {base : Nat} {spare held : _}
    (hv : Value.okWide Tryz.prog W r b0 41 v) (h : DataW.Trod enc Tryz.prog W base spare held 41 v d p) : ∃ c, IsCmd W v c := by
  obtain ⟨cs, rfl, hsz⟩ := okWide_struct Tryz.underlying41 hv
  rw [cmd_cells.2.2.2] at hsz
  obtain ⟨l⟩ := cs
  match l, hsz with
  | [c0, c1, c2, c3, c4, c5, c6, c7, c8, c9, c10, c11, c12, c13, c14, c15, c16, c17, c18, c19, c20, c21], _ =>
    obtain ⟨fuel, hf⟩ := h
    obtain ⟨xs, n, _, hx, _, hlen, hg⟩ := DataW.trod_struct Tryz.underlying41 hf
    match xs, hlen with
    | [y0, y1, y2, y3, y4, y5, y6, y7, y8, y9, y10, y11, y12, y13, y14, y15, y16, y17, y18, y19, y20, y21], _ =>
      have k3 := cmd_cells.1
      have k22 := cmd_cells.2.1
      have g0 := hg 0 _ rfl
      have g1 := hg 1 _ rfl
      have g2 := hg 2 _ rfl
      have g3 := hg 3 _ rfl
      have g4 := hg 4 _ rfl
      have g5 := hg 5 _ rfl
      have g6 := hg 6 _ rfl
      have g7 := hg 7 _ rfl
      have g8 := hg 8 _ rfl
      have g9 := hg 9 _ rfl
      have g10 := hg 10 _ rfl
      have g11 := hg 11 _ rfl
      have g12 := hg 12 _ rfl
      have g13 := hg 13 _ rfl
      have g14 := hg 14 _ rfl
      have g15 := hg 15 _ rfl
      have g16 := hg 16 _ rfl
      have g17 := hg 17 _ rfl
      have g18 := hg 18 _ rfl
      have g19 := hg 19 _ rfl
      have g20 := hg 20 _ rfl
      have g21 := hg 21 _ rfl
      simp [Value.cells, k3, k22] at g0 g1 g2 g3 g4 g5 g6 g7 g8 g9 g10 g11 g12 g13 g14 g15 g16 g17 g18 g19 g20 g21
      obtain ⟨z0, e0, -, w0⟩ := DataW.trod_int Tryz.underlying3 g0
      obtain ⟨z1, e1, -, w1⟩ := DataW.trod_int Tryz.underlying3 g1
      obtain ⟨z2, e2, -, w2⟩ := DataW.trod_int Tryz.underlying3 g2
      obtain ⟨z3, e3, -, w3⟩ := DataW.trod_int Tryz.underlying3 g3
      obtain ⟨z4, e4, -, w4⟩ := DataW.trod_int Tryz.underlying3 g4
      obtain ⟨z5, e5, -, w5⟩ := DataW.trod_int Tryz.underlying3 g5
      obtain ⟨z6, e6, -, w6⟩ := DataW.trod_int Tryz.underlying3 g6
      obtain ⟨z7, e7, -, w7⟩ := DataW.trod_int Tryz.underlying3 g7
      obtain ⟨z8, e8, -, w8⟩ := DataW.trod_int Tryz.underlying3 g8
      obtain ⟨z9, e9, -, w9⟩ := DataW.trod_int Tryz.underlying3 g9
      obtain ⟨z10, e10, -, w10⟩ := DataW.trod_int Tryz.underlying3 g10
      obtain ⟨z11, e11, -, w11⟩ := DataW.trod_int Tryz.underlying3 g11
      obtain ⟨z12, e12, -, w12⟩ := DataW.trod_int Tryz.underlying3 g12
      obtain ⟨z13, e13, -, w13⟩ := DataW.trod_int Tryz.underlying3 g13
      obtain ⟨z14, e14, -, w14⟩ := DataW.trod_int Tryz.underlying3 g14
      obtain ⟨z15, e15, -, w15⟩ := DataW.trod_int Tryz.underlying3 g15
      obtain ⟨z16, e16, -, w16⟩ := DataW.trod_int Tryz.underlying3 g16
      obtain ⟨z17, e17, -, w17⟩ := DataW.trod_int Tryz.underlying3 g17
      obtain ⟨z18, e18, -, w18⟩ := DataW.trod_int Tryz.underlying3 g18
      obtain ⟨z19, e19, -, w19⟩ := DataW.trod_int Tryz.underlying3 g19
      simp at e0 e1 e2 e3 e4 e5 e6 e7 e8 e9 e10 e11 e12 e13 e14 e15 e16 e17 e18 e19
      obtain ⟨ga, gl, gc, rfl, hgl, hgb, hgc⟩ := slice_stks g20
      obtain ⟨wa, wl, wc, rfl, hwl, hwb, hwc⟩ := slice_stks g21
      subst e0 e1 e2 e3 e4 e5 e6 e7 e8 e9 e10 e11 e12 e13 e14 e15 e16 e17 e18 e19
      refine ⟨⟨z0, fun i => [z1, z2, z3, z4, z5, z6, z7, z8, z9, z10, z11, z12, z13, z14, z15, z16, z17, z18, z19].getD i 0, gl, ga, gc, wl, wa, wc⟩, rfl, ⟨hgb, hwb⟩, WfI.i64 w0, fun i hi => ?_, fun i hi => ⟨WfI.i64 (hgc i hi).1, WfI.i64 (hgc i hi).2⟩, fun i hi => ⟨WfI.i64 (hwc i hi).1, WfI.i64 (hwc i hi).2⟩, fun i hi => ?_⟩
      · match i, hi with
        | 0, _ => exact WfI.i64 w1
        | 1, _ => exact WfI.i64 w2
        | 2, _ => exact WfI.i64 w3
        | 3, _ => exact WfI.i64 w4
        | 4, _ => exact WfI.i64 w5
        | 5, _ => exact WfI.i64 w6
        | 6, _ => exact WfI.i64 w7
        | 7, _ => exact WfI.i64 w8
        | 8, _ => exact WfI.i64 w9
        | 9, _ => exact WfI.i64 w10
        | 10, _ => exact WfI.i64 w11
        | 11, _ => exact WfI.i64 w12
        | 12, _ => exact WfI.i64 w13
        | 13, _ => exact WfI.i64 w14
        | 14, _ => exact WfI.i64 w15
        | 15, _ => exact WfI.i64 w16
        | 16, _ => exact WfI.i64 w17
        | 17, _ => exact WfI.i64 w18
        | 18, _ => exact WfI.i64 w19
        | n + 19, h => omega
      · show [z1, z2, z3, z4, z5, z6, z7, z8, z9, z10, z11, z12, z13, z14, z15, z16, z17, z18, z19].getD i 0 = 0
        rw [List.getD_eq_getElem?_getD, List.getElem?_eq_none (by simpa using hi)]
        rfl
end Cmd
end Go.Proofs.YtlhalhilnkneeaaGreatDoor
end
