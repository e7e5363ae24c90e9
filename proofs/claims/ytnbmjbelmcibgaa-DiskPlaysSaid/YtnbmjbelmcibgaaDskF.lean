/- A disk that is made; one that is to stand still: the walks. -/
import Derived.Test.YtnbmjbelmcibgaaDskQ
set_option linter.unusedSimpArgs false
set_option linter.unusedVariables false
namespace Go.Proofs.Ytnbmjbelmcibgaa
open Go.RowKit Go.Great Go.Maps
namespace Dsk
theorem PD.setHalf {w : World} {g m n : Nat} {d : DkIn} (h : PD w g m n d) (x : Bool) : PD (w.setCell ⟨g, 4, none⟩ (.bool x)) g m n { d with half := x } := by
  refine ⟨World.rowIs.congr (World.rowIs.set h.row 4 _) fun i hi => ?_, h.own.kept (w' := w.setCell ⟨g, 4, none⟩ (.bool x)) (row := some g) ⟨rfl, rfl, rfl, by simp, fun j hj hne => Below.heap_setCell _ _ _ _ fun e => hne (by rw [e])⟩ (fun e => h.ne (Option.some.inj e).symm), h.ne⟩
  match i, hi with
  | 0, _ => rfl
  | 1, _ => rfl
  | 2, _ => rfl
  | 3, _ => rfl
  | 4, _ => rfl
  | 5, _ => rfl
set_option maxRecDepth 100000 in
theorem fuse_any (w : World) (g m n : Nat) (d : DkIn) (h : PD w g m n d) (z : Int) (b : Bool) : Calls Try.prog 11 #[.pointer (some ⟨g, 0, none⟩), .int .i64 z, .bool b] w fun e w' => e = .returned (.tuple #[]) ∧ Hid (PD w' g m n (fuseV d z b)) ∧ Hid (Bx g m w w') := by
  have HP := Lib.hid h
  have CG : Hid (Calls Try.prog 30 #[.pointer (some ⟨g, 0, none⟩)] w fun e w' => e = .returned (.bool true) ∧ w = w') := given_any w g m n d h
  obtain ⟨c0, c1, c2, c3, c4, c5⟩ := h.cells
  have f3 := World.rowIs.frozen h.row 3
  have f4 := World.rowIs.frozen h.row 4
  have gset : ∀ (W : World) (i : Nat) (u : Value), W.grownBy (W.setCell ⟨g, i, none⟩ u) (some g) := fun W i u => ⟨rfl, rfl, rfl, by simp, fun j hj hne => Below.heap_setCell _ _ _ _ fun e => hne (by rw [e])⟩
  clear h
  have e : (if 0 < z then z else 0) = max 0 z := by omega
  unfold fuseV
  rw [e]
  clear e
  go_enter Try.func11, Try.ntmps11
  go_wp2_with (go_at_call 30; (with_reducible refine CG.out.mono ?_); rintro e w2 ⟨rfl, rfl⟩)
  go_end0
  exact ⟨rfl, (HP.out.setLast (max 0 z)).setHalf b, Bx.grown (grw_trans (gset _ _ _) (gset _ _ _)) fun k e => Or.inl (Option.some.inj e).symm⟩
set_option maxRecDepth 100000 in
theorem new_any (w : World) (z : Int) (h : 0 ≤ z ∧ z ≤ 16777216) : Calls Try.prog 8 #[.int .i64 z] w fun e w' => e = .returned (.tuple #[.pointer (some ⟨w.heap.size + 1, 0, none⟩), .int .i64 0]) ∧ Hid (PD w' (w.heap.size + 1) w.heap.size 0 (newD z)) ∧ Hid (Below w.heap.size w w') := by
  obtain ⟨h0, h1⟩ := h
  have d0 : decide (z < 0) = false := decide_eq_false (by omega)
  have d1 : decide (16777216 < z) = false := decide_eq_false (by omega)
  have n0 : ¬ z < 0 := by omega
  have n1 : ¬ 16777216 < z := by omega
  have hmm := @run_makeMap Try.prog
  go_enter Try.func8, Try.ntmps8
  go_wp2
  go_ret2
  refine ⟨rfl, ⟨?_, (World.ownsMap_made w _ _ _).alloc _, by omega⟩, below_al (below_al (Below.refl _ _) _) _⟩
  have hr := World.rowIs_alloc (w.alloc (.map #[] 0)) #[.map (some w.heap.size), .int .i64 z, .int .i64 0, .int .i64 0, .bool false, .bool false] 57 (cellP w.heap.size (newD z)) (fun i hi => by
    match i, hi with
    | 0, _ => rfl
    | 1, _ => rfl
    | 2, _ => rfl
    | 3, _ => rfl
    | 4, _ => rfl
    | 5, _ => rfl)
  rw [show (w.alloc (.map #[] 0)).heap.size = w.heap.size + 1 from by simp] at hr
  exact hr
end Dsk
end Go.Proofs.Ytnbmjbelmcibgaa
