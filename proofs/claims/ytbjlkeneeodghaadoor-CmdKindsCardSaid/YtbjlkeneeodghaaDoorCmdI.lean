/- A command that is read: what is read; what stands there while it is read. -/
import Derived.Test.YtbjlkeneeodghaaDoorCmdH
import Derived.Deep.RegionLaw
import Derived.Deep.AppendLies
set_option linter.unusedSimpArgs false
set_option linter.unusedVariables false
namespace Go.Proofs.YtbjlkeneeodghaaDoor
open Go.RowKit Go.Great
namespace Cmd
open Pen (bs bs_append uintB intB I64 intS uintS doneS)
open In (Strs)
open Cat (Rd Rs QP QR Bx)
open Rec (below2 below_al below_dN Stk Stks stkVals stkVals_append stks_of_own)
/-- Numbers that are read into places. -/
def tkN : List Nat → (Nat → Int) → Cat.Left → (Nat → Int) × Cat.Left
  | [], f, o => (f, o)
  | i :: l, f, o => tkN l (fun j => if j = i then (intS o).1 else f j) (intS o).2
/-- So many stacks that are read. -/
def tkS : Nat → Cat.Left → List Stk × Cat.Left
  | 0, o => ([], o)
  | n + 1, o => (((intS o).1, (intS (intS o).2).1) :: (tkS n (intS (intS o).2).2).1, (tkS n (intS (intS o).2).2).2)
/-- Their number, and they. -/
def stS (o : Cat.Left) : List Stk × Cat.Left := tkS (uintS 8 o).1.toNat (uintS 8 o).2
/-- A command's parts that are read. -/
def rdC (s : List UInt8) : CmdIn × Cat.Left :=
  let u := uintS 25 (some s)
  let r := tkN (fi u.1) (fun _ => 0) u.2
  if u.1 = 14 then (⟨u.1, r.1, (stS r.2).1, none, 0, (stS (stS r.2).2).1, none, 0⟩, (stS (stS r.2).2).2) else (⟨u.1, r.1, [], none, 0, [], none, 0⟩, r.2)
/-- What Take answers. -/
def takeV (s : List UInt8) : CmdIn × Int := if doneS (rdC s).2 = true ∧ fi (uintS 25 (some s)).1 ≠ [] then ((rdC s).1, 0) else (zeroC, 2)
/-- A command and a number are given back. -/
def GivesT (t : CmdIn × Int) (w : World) (e : Ending) (w' : World) : Prop := ∃ c', e = .returned (.tuple #[.agg c'.val, .int .i64 t.2]) ∧ Hid (Eqv c' t.1) ∧ Hid (Lies w' c') ∧ Hid (Below w.heap.size w w')
theorem tkS_len (n : Nat) : ∀ o, (tkS n o).1.length = n := by
  induction n with
  | zero => intro o; rfl
  | succ n ih => intro o; simp [tkS, ih]
/-- Stacks that are read: the reader, the command's cells, and the row of the stacks. -/
structure NC (T : TypeId) (Q : (Nat → Value) → Cat.Left → Prop) (W : World) (g gb base p : Nat) (f : Nat → Value) (l : List Stk) (o : Cat.Left) (w : World) : Prop where
  rd : Rd T Q w g o
  row : ∃ v, w.rowIs gb 24 22 (fun i => if i = p then v else f i) ∧ w.ownsRow base 52 2 v l.length (stkVals l)
  fr : Bx base (fun k => k = g ∨ k = gb) W w
  le : base ≤ w.heap.size
theorem kept_of {w w' : World} {base : Nat} {e : TypeId} {size n : Nat} {v : Value} {xs : List Value} {g : Nat} (h : w.ownsRow base e size v n xs) (hg : w.grownBy w' (some g)) (hb : g < base) : w'.ownsRow base e size v n xs :=
  h.kept hg (.inr fun e => by have := (h.lt _ e).1; omega)
theorem row_grown {w w' : World} {b n : Nat} {t : TypeId} {f : Nat → Value} {o : Option Nat} (h : w.rowIs b t n f) (hg : w.grownBy w' o) (hne : o ≠ some b) : w'.rowIs b t n f := h.of_block (hg.block b h.lt fun e => hne e.symm)
theorem grw_al {w w' : World} {o : Option Nat} (x : Obj) (h : (w.alloc x).grownBy w' o) : w.grownBy w' o :=
  ⟨h.os, h.tape, h.output, Nat.le_trans (by simp) h.size, fun k hk hne => (h.block k (by simp; omega) hne).trans (heap_alloc_old w x hk)⟩
theorem cell_grown {w w' : World} {o : Option Nat} {g i : Nat} {v : Value} (h : w.grownBy w' o) (hg : g < w.heap.size) (hne : o ≠ some g) (hc : w.cell? ⟨g, i, none⟩ = some v) : w'.cell? ⟨g, i, none⟩ = some v := by
  unfold World.cell? at hc ⊢
  rw [h.block g hg (fun e => hne (by rw [e]))]
  exact hc
theorem ownsRow_setCell_below {w : World} {base : Nat} {T : TypeId} {k n : Nat} {v : Value} {xs : List Value} (h : w.ownsRow base T k v n xs) {a : Addr} (hb : a.block < base) (u : Value) : (w.setCell a u).ownsRow base T k v n xs := by
  have hg : w.grownBy (w.setCell a u) (some a.block) := ⟨rfl, rfl, rfl, by simp, fun j hj hne => Below.heap_setCell _ _ _ _ (fun e => hne (by rw [e]))⟩
  exact h.kept hg (.inr fun e => by have := (h.lt _ e).1; omega)
/-- What is there behind one stack more. -/
theorem need_end {T : TypeId} {Q : (Nat → Value) → Cat.Left → Prop} {W w w1 w2 w3 : World} {g gb base p : Nat} {f : Nat → Value} {l : List Stk} {x : Stk} {o : Cat.Left} {v v' : Value} (HF : Bx base (fun k => k = g ∨ k = gb) W w) (hle : base ≤ w.heap.size) (hbl : g < base ∧ gb < base) (G1 : w.grownBy w1 (some g)) (G2 : w1.grownBy w2 (some g)) (HR : Rd T Q w2 g o) (HV : w2.ownsRow base 52 2 v l.length (stkVals l)) (G3 : w2.grownBy w3 v.ownBlock)
    (HW : w3.rowIs gb 24 22 (fun i => if i = p then v else f i)) (HO : w3.ownsRow base 52 2 v' (l.length + 1) (stkVals l ++ [.int .i64 x.1, .int .i64 x.2])) (hgb : g ≠ gb) : NC T Q W g gb base p f (l ++ [x]) o (w3.setCell ⟨gb, p, none⟩ v') := by
  have hs1 := G1.size
  have hs2 := G2.size
  have hs3 := G3.size
  have hvn : ∀ k, v.ownBlock = some k → base ≤ k := fun k e => (HV.lt k e).1
  refine ⟨?_, ⟨v', ?_, ?_⟩, ?_, ?_⟩
  · exact (HR.grown G3 fun e => by have := hvn _ e; omega).set (fun e => hgb e.symm) _
  · exact (HW.set p v').congr fun i hi => by by_cases e : i = p <;> simp [e]
  · rw [List.length_append, stkVals_append]
    exact ownsRow_setCell_below HO hbl.2 v'
  · refine ((((HF.grown G1 hle fun k e => .inr (.inl (by cases e; rfl))).grown G2 (by omega) fun k e => .inr (.inl (by cases e; rfl))).grown G3 (by omega) fun k e => .inl (hvn k e))).set _ _ (.inr (.inr rfl))
  · simp; omega
/-- The cells of a command, its stacks at one place left open. -/
def open20 (c : CmdIn) : Nat → Value := c.cell
theorem NC.start {T : TypeId} {Q : (Nat → Value) → Cat.Left → Prop} {w : World} {g gb p : Nat} {f : Nat → Value} {o : Cat.Left} (hr : Rd T Q w g o) (hw : w.rowIs gb 24 22 f) (hf : f p = .slice none 0 0) : NC T Q w g gb w.heap.size p f [] o w :=
  ⟨hr, ⟨.slice none 0 0, hw.congr fun i hi => by by_cases e : i = p <;> simp [e, hf], ⟨rfl, .inl ⟨rfl, rfl⟩⟩⟩, Bx.refl _ _ _, Nat.le_refl _⟩
end Cmd
end Go.Proofs.YtbjlkeneeodghaaDoor
