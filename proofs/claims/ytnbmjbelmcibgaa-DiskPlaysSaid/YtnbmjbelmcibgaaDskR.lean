/- A disk that stands in a block: what is given, what is counted. -/
import Derived.Test.YtnbmjbelmcibgaaDskM
import Derived.Test.YtnbmjbelmcibgaaOwn
import Derived.Test.YtnbmjbelmcibgaaOrdV
import Derived.WalkKit
import Derived.WalkLawsBesides
import Derived.Great.Walk
import Derived.Lib.Hide
import Derived.BigQuiet
import Derived.Laws.Rows
import Derived.Deep.OwnRows
import Derived.Maps.OwnSet
import Derived.Maps.RangeWalk
set_option linter.unusedSimpArgs false
set_option linter.unusedVariables false
namespace Go.Proofs.Ytnbmjbelmcibgaa
open Go.RowKit Go.Great Go.Maps
namespace Dsk
theorem below2 {w a b : World} (h : Below w.heap.size w a) (h2 : Below a.heap.size a b) : Below w.heap.size w b := h.trans (h2.mono h.size)
theorem below_al {w x : World} (h : Below w.heap.size w x) (o : Obj) : Below w.heap.size w (x.alloc o) := h.alloc h.size o
theorem below_dN {B : Nat} {a w : World} (h : Below B a w) (n : Nat) : Below B a (w.drewN n) := ⟨h.os, h.tape, h.output, h.size, h.block⟩
def cellP (m : Nat) (d : DkIn) (i : Nat) : Value := if i = 0 then .map (some m) else if i = 1 then .int .i64 d.room else if i = 2 then .int .i64 d.ops else if i = 3 then .int .i64 d.last else if i = 4 then .bool d.half else .bool d.dead
/-- A disk that stands in a block, its files in a map. -/
structure PD (w : World) (g m n : Nat) (d : DkIn) : Prop where
  row : w.rowIs g 57 6 (cellP m d)
  own : w.ownsMap Try.prog 9 fileElem m n (datum d.files)
  ne : g ≠ m
/-- The numbers of a disk are small. -/
structure Dok (d : DkIn) : Prop where
  fok : Fok d.files
  room : 0 ≤ d.room ∧ d.room ≤ 16777216
  ops : 0 ≤ d.ops ∧ d.ops ≤ 1000000000
  last : 0 ≤ d.last ∧ d.last ≤ 9223372036854775807
theorem PD.cells {w : World} {g m n : Nat} {d : DkIn} (h : PD w g m n d) : w.cell? ⟨g, 0, none⟩ = some (.map (some m)) ∧ w.cell? ⟨g, 1, none⟩ = some (.int .i64 d.room) ∧ w.cell? ⟨g, 2, none⟩ = some (.int .i64 d.ops) ∧ w.cell? ⟨g, 3, none⟩ = some (.int .i64 d.last) ∧ w.cell? ⟨g, 4, none⟩ = some (.bool d.half) ∧ w.cell? ⟨g, 5, none⟩ = some (.bool d.dead) :=
  ⟨World.rowIs.cell h.row (i := 0) (by decide), World.rowIs.cell h.row (i := 1) (by decide), World.rowIs.cell h.row (i := 2) (by decide), World.rowIs.cell h.row (i := 3) (by decide), World.rowIs.cell h.row (i := 4) (by decide), World.rowIs.cell h.row (i := 5) (by decide)⟩
theorem PD.lt {w : World} {g m n : Nat} {d : DkIn} (h : PD w g m n d) : g < w.heap.size ∧ m < w.heap.size := ⟨World.rowIs.lt h.row, h.own.lt⟩
theorem PD.grown {w w' : World} {g m n : Nat} {d : DkIn} {o : Option Nat} (h : PD w g m n d) (hg : w.grownBy w' o) (h1 : o ≠ some g) (h2 : o ≠ some m) : PD w' g m n d :=
  ⟨h.row.of_block (hg.block g h.lt.1 fun e => h1 e.symm), h.own.kept hg fun e => h2 e.symm, h.ne⟩
theorem PD.below {w w' : World} {g m n : Nat} {d : DkIn} (h : PD w g m n d) (hb : Below w.heap.size w w') : PD w' g m n d :=
  h.grown (o := none) ⟨hb.os, hb.tape, hb.output, hb.size, fun k hk _ => hb.block k hk⟩ (by simp) (by simp)
theorem PD.setOps {w : World} {g m n : Nat} {d : DkIn} (h : PD w g m n d) (x : Int) : PD (w.setCell ⟨g, 2, none⟩ (.int .i64 x)) g m n { d with ops := x } := by
  refine ⟨World.rowIs.congr (World.rowIs.set h.row 2 _) fun i hi => ?_, h.own.kept (w' := w.setCell ⟨g, 2, none⟩ (.int .i64 x)) (row := some g) ⟨rfl, rfl, rfl, by simp, fun j hj hne => Below.heap_setCell _ _ _ _ fun e => hne (by rw [e])⟩ (fun e => h.ne (Option.some.inj e).symm), h.ne⟩
  match i, hi with
  | 0, _ => rfl
  | 1, _ => rfl
  | 2, _ => rfl
  | 3, _ => rfl
  | 4, _ => rfl
  | 5, _ => rfl
theorem PD.setLast {w : World} {g m n : Nat} {d : DkIn} (h : PD w g m n d) (x : Int) : PD (w.setCell ⟨g, 3, none⟩ (.int .i64 x)) g m n { d with last := x } := by
  refine ⟨World.rowIs.congr (World.rowIs.set h.row 3 _) fun i hi => ?_, h.own.kept (w' := w.setCell ⟨g, 3, none⟩ (.int .i64 x)) (row := some g) ⟨rfl, rfl, rfl, by simp, fun j hj hne => Below.heap_setCell _ _ _ _ fun e => hne (by rw [e])⟩ (fun e => h.ne (Option.some.inj e).symm), h.ne⟩
  match i, hi with
  | 0, _ => rfl
  | 1, _ => rfl
  | 2, _ => rfl
  | 3, _ => rfl
  | 4, _ => rfl
  | 5, _ => rfl
theorem PD.setDead {w : World} {g m n : Nat} {d : DkIn} (h : PD w g m n d) (x : Bool) : PD (w.setCell ⟨g, 5, none⟩ (.bool x)) g m n { d with dead := x } := by
  refine ⟨World.rowIs.congr (World.rowIs.set h.row 5 _) fun i hi => ?_, h.own.kept (w' := w.setCell ⟨g, 5, none⟩ (.bool x)) (row := some g) ⟨rfl, rfl, rfl, by simp, fun j hj hne => Below.heap_setCell _ _ _ _ fun e => hne (by rw [e])⟩ (fun e => h.ne (Option.some.inj e).symm), h.ne⟩
  match i, hi with
  | 0, _ => rfl
  | 1, _ => rfl
  | 2, _ => rfl
  | 3, _ => rfl
  | 4, _ => rfl
  | 5, _ => rfl
theorem grw_trans {a b c : World} {g : Nat} (h1 : a.grownBy b (some g)) (h2 : b.grownBy c (some g)) : a.grownBy c (some g) :=
  ⟨h2.os.trans h1.os, h2.tape.trans h1.tape, h2.output.trans h1.output, Nat.le_trans h1.size h2.size, fun k hk hne => (h2.block k (Nat.lt_of_lt_of_le hk h1.size) hne).trans (h1.block k hk hne)⟩
theorem map_ne (m : Nat) (w : World) : Sem.run Try.prog (binOp .neq 55 (.map (some m)) (.map none)) w = .ok (.bool true) w := by kernel_rfl
theorem map_eq (w : World) : Sem.run Try.prog (binOp .neq 55 (.map none) (.map none)) w = .ok (.bool false) w := by kernel_rfl
set_option maxRecDepth 100000 in
theorem given_any (w : World) (g m n : Nat) (d : DkIn) (h : PD w g m n d) : Calls Try.prog 30 #[.pointer (some ⟨g, 0, none⟩)] w fun e w' => e = .returned (.bool true) ∧ w = w' := by
  obtain ⟨c0, -⟩ := h.cells
  have q := map_ne m w
  go_enter Try.func30, Try.ntmps30
  go_wp2
  go_ret
  exact ⟨rfl, rfl⟩
set_option maxRecDepth 100000 in
theorem given_nil (w : World) : Calls Try.prog 30 #[.pointer none] w fun e w' => e = .returned (.bool false) ∧ w = w' := by
  go_enter Try.func30, Try.ntmps30
  go_wp2
  go_ret
  exact ⟨rfl, rfl⟩
set_option maxRecDepth 100000 in
theorem given_zero (w : World) (g : Nat) (h : w.cell? ⟨g, 0, none⟩ = some (.map none)) : Calls Try.prog 30 #[.pointer (some ⟨g, 0, none⟩)] w fun e w' => e = .returned (.bool false) ∧ w = w' := by
  have q := map_eq w
  go_enter Try.func30, Try.ntmps30
  go_wp2
  go_ret
  exact ⟨rfl, rfl⟩
set_option maxRecDepth 100000 in
theorem wakes_any (w : World) (g m n : Nat) (d : DkIn) (h : PD w g m n d) : Calls Try.prog 26 #[.pointer (some ⟨g, 0, none⟩)] w fun e w' => e = .returned (.int .i64 (if d.dead then 14 else 0)) ∧ w = w' := by
  have CG : Hid (Calls Try.prog 30 #[.pointer (some ⟨g, 0, none⟩)] w fun e w' => e = .returned (.bool true) ∧ w = w') := given_any w g m n d h
  obtain ⟨c0, c1, c2, c3, c4, c5⟩ := h.cells
  clear h
  cases hd : d.dead with
  | true =>
    rw [hd] at c5
    go_enter Try.func26, Try.ntmps26
    go_wp2_with (go_at_call 30; (with_reducible refine CG.out.mono ?_); rintro e w2 ⟨rfl, rfl⟩)
    go_ret
    exact ⟨rfl, rfl⟩
  | false =>
    rw [hd] at c5
    go_enter Try.func26, Try.ntmps26
    go_wp2_with (go_at_call 30; (with_reducible refine CG.out.mono ?_); rintro e w2 ⟨rfl, rfl⟩)
    go_ret
    exact ⟨rfl, rfl⟩
set_option maxRecDepth 100000 in
set_option maxHeartbeats 1000000 in
theorem begins_any (w : World) (g m n : Nat) (d : DkIn) (h : PD w g m n d) (hd : Dok d) : Calls Try.prog 28 #[.pointer (some ⟨g, 0, none⟩)] w fun e w' => e = .returned (.tuple #[.bool (opV d).1, .int .i64 (opV d).2.1]) ∧ Hid (PD w' g m n (opV d).2.2) ∧ Hid (w.grownBy w' (some g)) := by
  have HP := Lib.hid h
  obtain ⟨c0, c1, c2, c3, c4, c5⟩ := h.cells
  have f2 := World.rowIs.frozen h.row 2
  have f3 := World.rowIs.frozen h.row 3
  have f5 := World.rowIs.frozen h.row 5
  obtain ⟨o0, o1⟩ := hd.ops
  obtain ⟨l0, l1⟩ := hd.last
  have gset : ∀ (W : World) (i : Nat) (u : Value), W.grownBy (W.setCell ⟨g, i, none⟩ u) (some g) := fun W i u => ⟨rfl, rfl, rfl, by simp, fun j hj hne => Below.heap_setCell _ _ _ _ fun e => hne (by rw [e])⟩
  have ew : wrap64 (d.ops + 1) = d.ops + 1 := by unfold wrap64; omega
  have el : wrap64 (d.last - 1) = d.last - 1 := by unfold wrap64; omega
  by_cases hz : d.last = 0
  · have dz : (d.last == 0) = true := beq_iff_eq.2 hz
    have e : opV d = (true, 0, { d with ops := d.ops + 1 }) := by unfold opV; rw [if_pos hz]
    rw [e]
    go_enter Try.func28, Try.ntmps28
    go_wp2
    go_ret2
    exact ⟨rfl, HP.out.setOps (d.ops + 1), gset _ _ _⟩
  · have dz : (d.last == 0) = false := beq_eq_false_iff_ne.2 hz
    by_cases h1 : 0 < d.last - 1
    · have d1 : decide (1 < d.last) = true := decide_eq_true (by omega)
      have h1' : 1 < d.last := by omega
      have e : opV d = (true, 0, { d with ops := d.ops + 1, last := d.last - 1 }) := by unfold opV; rw [if_neg hz, if_pos h1]
      rw [e]
      go_enter Try.func28, Try.ntmps28
      go_wp2
      go_ret2
      exact ⟨rfl, (HP.out.setOps (d.ops + 1)).setLast (d.last - 1), grw_trans (gset _ _ _) (gset _ _ _)⟩
    · have d1 : decide (1 < d.last) = false := decide_eq_false (by omega)
      have h1' : ¬ 1 < d.last := by omega
      have e : opV d = (d.half, 14, { d with ops := d.ops + 1, last := d.last - 1, dead := true }) := by unfold opV; rw [if_neg hz, if_neg h1]
      rw [e]
      go_enter Try.func28, Try.ntmps28
      go_wp2
      go_ret2
      exact ⟨rfl, ((HP.out.setOps (d.ops + 1)).setLast (d.last - 1)).setDead true, grw_trans (grw_trans (gset _ _ _) (gset _ _ _)) (gset _ _ _)⟩
end Dsk
end Go.Proofs.Ytnbmjbelmcibgaa
