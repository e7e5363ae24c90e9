/- A number of a command, by its name: either side. -/
import Derived.Test.YtbjlkeneeodghaaDoorCmdS
import Derived.StillTailTactics
set_option linter.unusedSimpArgs false
set_option linter.unusedVariables false
namespace Go.Proofs.YtbjlkeneeodghaaDoor
open Go.RowKit Go.Great
namespace Cmd
open Pen (bs)
open In (Strs)
open Rec (below2 below_al below_dN Stk Stks stkVals)
/-- The number of a name. -/
def getV (c : CmdIn) (s : ByteArray) : Int × Bool := match place s with
  | some i => (c.num i, true)
  | none => (0, false)
set_option maxRecDepth 100000 in
theorem get_any (c : CmdIn) (s : ByteArray) (w : World) : Calls Tryd.prog 16 #[.agg c.val, .string s] w fun e w' => e = .returned (.tuple #[.int .i64 (getV c s).1, .bool (getV c s).2]) ∧ Below w.heap.size w w' := by
  have HST := Lib.hid (stand_new (w := w) rfl c)
  have CF : Hid (∀ g W, Calls Tryd.prog 29 #[.pointer (some ⟨g, 0, none⟩), .string s] W fun e w' => e = .returned (.pointer (at0 g (place s))) ∧ W = w') := fun g W => field_any g s W
  cases hp : place s with
  | some i =>
    obtain ⟨hi, -⟩ := place_lt 19 i hp
    have HV : Hid (getV c s = (c.num i, true)) := by show _ = _; unfold getV; rw [hp]
    rw [HV.out]
    rw [hp] at CF
    have hx := HST.out.num i hi
    generalize c.num i = X at *
    generalize c.val = V at *
    clear hp HV
    unfold at0 at CF
    go_enter Tryd.func16, Tryd.ntmps16
    go_wp2_with (go_at_call 29; (with_reducible refine (CF.out _ _).mono ?_); rintro e w1 ⟨rfl, rfl⟩)
    all_goals go_ret2
    all_goals exact ⟨rfl, below_al (Below.refl _ _) _⟩
  | none =>
    have HV : Hid (getV c s = (0, false)) := by show _ = _; unfold getV; rw [hp]
    rw [HV.out]
    rw [hp] at CF
    generalize c.val = V at *
    clear hp HV
    unfold at0 at CF
    go_enter Tryd.func16, Tryd.ntmps16
    go_wp2_with (go_at_call 29; (with_reducible refine (CF.out _ _).mono ?_); rintro e w1 ⟨rfl, rfl⟩)
    all_goals go_ret2
    all_goals exact ⟨rfl, below_al (Below.refl _ _) _⟩
set_option maxRecDepth 100000 in
theorem refGet_any (c : CmdIn) (s : ByteArray) (w : World) : Calls Tryd.prog 17 #[.agg c.val, .string s] w fun e w' => e = .returned (.tuple #[.int .i64 (getV c s).1, .bool (getV c s).2]) ∧ Below w.heap.size w w' := by
  have HST := Lib.hid (stand_new (w := w) rfl c)
  have CP : Hid (∀ W, Calls Tryd.prog 47 #[.string s] W fun e w' => e = .returned (.int .i64 (plI (place s))) ∧ Below W.heap.size W w') := fun W => place_any s W
  have CA : Hid (∀ W, Calls Tryd.prog 41 #[.agg c.val] W (GivesN c.num W)) := fun W => all_any c W
  cases hp : place s with
  | some i =>
    obtain ⟨hi, -⟩ := place_lt 19 i hp
    have HV : Hid (getV c s = (c.num i, true)) := by show _ = _; unfold getV; rw [hp]
    have HP : Hid (plI (some i) = (i : Int)) := rfl
    rw [HV.out]
    rw [hp, HP.out] at CP
    have hi1 : (i : Int) < 19 := by omega
    have hi0 : (0 : Int) ≤ (i : Int) := by omega
    have n0 : ¬ (i : Int) < 0 := by omega
    clear hp HV
    go_enter Tryd.func17, Tryd.ntmps17
    go_wp2_with (first
      | (go_at_call 47; (with_reducible refine (CP.out _).mono ?_); rintro e w1 ⟨rfl, hb1⟩; have HB1 := Lib.hid hb1; clear hb1; have HS1 := Lib.hid (HST.out.below HB1.out))
      | (refine load_cmd rfl (.tmp 2) rfl w.heap.size rfl c HS1.out ?_)
      | (go_at_call 41; (with_reducible refine (CA.out _).mono ?_); rintro e w2 ⟨g2, rfl, hg2, HN2, HB2⟩; have cx := HN2.out.cell i hi))
    all_goals go_ret2
    all_goals exact ⟨rfl, (below2 (below_al (Below.refl _ _) _) (below2 HB1.out HB2.out))⟩
  | none =>
    have HV : Hid (getV c s = (0, false)) := by show _ = _; unfold getV; rw [hp]
    have HP : Hid (plI none = -1) := rfl
    rw [HV.out]
    rw [hp, HP.out] at CP
    generalize c.val = V at *
    clear hp HV
    go_enter Tryd.func17, Tryd.ntmps17
    go_wp2_with (go_at_call 47; (with_reducible refine (CP.out _).mono ?_); rintro e w1 ⟨rfl, hb1⟩; have HB1 := Lib.hid hb1; clear hb1)
    all_goals go_ret2
    all_goals exact ⟨rfl, below2 (below_al (Below.refl _ _) _) HB1.out⟩
/-- A command with other numbers. -/
def CmdIn.with (c : CmdIn) (f : Nat → Int) : CmdIn := { c with num := f }
theorem wp_named {P : Program} {c : Code} {Q : Exit → Act → World → Prop} {a : Act} {w : World} (h : ∀ W, W = w → c.wp P Q a W) : c.wp P Q a w := h w rfl
/-- A command that is nothing. -/
def zeroC : CmdIn := ⟨0, fun _ => 0, [], none, 0, [], none, 0⟩
theorem Stand.three {w : World} {g : Nat} {c : CmdIn} (h : Stand w g c) : w.cell? ⟨g, 0, none⟩ = some (.int .i64 c.kind) ∧ w.cell? ⟨g, 20, none⟩ = some (.slice c.ga c.gives.length c.gc) ∧ w.cell? ⟨g, 21, none⟩ = some (.slice c.wa c.wants.length c.wc) :=
  ⟨World.rowIs.cell h (i := 0) (by decide), World.rowIs.cell h (i := 20) (by decide), World.rowIs.cell h (i := 21) (by decide)⟩
set_option maxRecDepth 100000 in
set_option maxHeartbeats 4000000 in
theorem of_any (c : CmdIn) (g : Nat) (f : Nat → Int) (w : World) (h : NumsAt w g f) : Calls Tryd.prog 49 #[.agg c.val, .slice (some ⟨g, 0, none⟩) 19 19] w fun e w' => e = .returned (.agg (c.with f).val) ∧ Below w.heap.size w w' := by
  have HST := Lib.hid (stand_new (w := w) rfl c)
  have HN := Lib.hid h
  clear h
  obtain ⟨V, hV⟩ : ∃ V, Hid (c.val = V) := ⟨_, rfl⟩
  rw [hV.out]
  go_enter Tryd.func49, Tryd.ntmps49
  go_wp2
  refine wp_named fun W hW => ?_
  have hW2 : W = (w.alloc (.cells V 24)).alloc (.cells zeroC.val 24) := hW
  have HB : Hid (Below w.heap.size w W) := by rw [hW2]; exact below_al (below_al (Below.refl _ _) _) _
  have HS : Hid (Stand W w.heap.size c) := by
    rw [hW2, ← hV.out]
    exact HST.out.below (below_al (Below.refl _ _) _)
  have HG : Hid (W.heap[w.heap.size + 1]? = some (.cells zeroC.val 24 (0, 0))) := by
    rw [hW2]
    exact heap_alloc2_new w _ _
  have HNW := Lib.hid (HN.out.below HB.out)
  obtain ⟨b0, b20, b21⟩ := HS.out.three
  have c0 := HNW.out.cell 0 (by decide)
  have c1 := HNW.out.cell 1 (by decide)
  have c2 := HNW.out.cell 2 (by decide)
  have c3 := HNW.out.cell 3 (by decide)
  have c4 := HNW.out.cell 4 (by decide)
  have c5 := HNW.out.cell 5 (by decide)
  have c6 := HNW.out.cell 6 (by decide)
  have c7 := HNW.out.cell 7 (by decide)
  have c8 := HNW.out.cell 8 (by decide)
  have c9 := HNW.out.cell 9 (by decide)
  have c10 := HNW.out.cell 10 (by decide)
  have c11 := HNW.out.cell 11 (by decide)
  have c12 := HNW.out.cell 12 (by decide)
  have c13 := HNW.out.cell 13 (by decide)
  have c14 := HNW.out.cell 14 (by decide)
  have c15 := HNW.out.cell 15 (by decide)
  have c16 := HNW.out.cell 16 (by decide)
  have c17 := HNW.out.cell 17 (by decide)
  have c18 := HNW.out.cell 18 (by decide)
  clear hW hW2
  refine wp_region_still_tail 63 (by kernel_rfl) (by kernel_rfl) ?_
  simp only [List.append_eq, List.cons_append, List.nil_append, List.take_succ_cons, List.take_zero, List.drop_succ_cons, List.drop_zero]
  repeat still_step
  try refine wpStill_nil ?_
  clear c0 c1 c2 c3 c4 c5 c6 c7 c8 c9 c10 c11 c12 c13 c14 c15 c16 c17 c18
  refine wpList_buildTo rfl 24 _ rfl (some 68) rfl (c.with f).val (by as_aux_lemma => kernel_rfl) ?_
  refine wpList_store_rowTo rfl 24 (.tmp 4) (.tmp 68) rfl rfl (w.heap.size + 1) (c.with f).val (by as_aux_lemma => kernel_rfl) (by as_aux_lemma => kernel_rfl) 24 zeroC.val HG.out (by as_aux_lemma => kernel_rfl) (by as_aux_lemma => kernel_rfl) (by as_aux_lemma => kernel_rfl) ?_
  apply wpList_nil
  go_step
  go_step
  try go_step
  exact bodyPost_ret (v := .agg (c.with f).val) (results_cell_row rfl _ _ (w.heap.size + 1) 24 (c.with f).val (0, 0) _ (by as_aux_lemma => kernel_rfl) (setRow_heap _ _ zeroC.val _ _ _ HG.out) Tryd.underlying24 rfl (by as_aux_lemma => kernel_rfl)) (by as_aux_lemma => kernel_rfl) ⟨rfl, below_setRow (below_dN HB.out 1) _ (by omega) _⟩
end Cmd
end Go.Proofs.YtbjlkeneeodghaaDoor
