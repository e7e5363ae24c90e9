/- Texts put together: AsmE, AsmF, CmdJ. -/
import Derived.Test.YtlhalhilnkneeaaGreatDoorM13
import Derived.Test.YtlhalhilnkneeaaGreatDoorM05
import Derived.Deep.AppendLies
import Derived.Test.YtlhalhilnkneeaaGreatDoorM07
set_option linter.all false
section
namespace Go.Proofs.YtlhalhilnkneeaaGreatDoor
open Go.RowKit Go.Great
namespace Cmd
open Pen (bs)
open In (Strs)
open Rec (below2 below_al below_dN Stk Stks stkVals)
/-- As GivesB; and the stacks lie where they lay, or in blocks that are new. -/
def GivesC (c t : CmdIn) (b : Bool) (w : World) (e : Ending) (w' : World) : Prop := ∃ c', e = .returned (.tuple #[.agg c'.val, .bool b]) ∧ Hid (Eqv c' t) ∧ Hid (Lies w' c') ∧ Hid (Below w.heap.size w w') ∧ Hid ((∀ x, c'.ga = some x → c.ga = some x ∨ w.heap.size ≤ x.block) ∧ ∀ x, c'.wa = some x → c.wa = some x ∨ w.heap.size ≤ x.block)
set_option maxRecDepth 100000 in
set_option maxHeartbeats 4000000 in
theorem refSet2_any (c : CmdIn) (s : ByteArray) (n : Int) (w : World) (hl : Lies w c) : Calls Tryz.prog 60 #[.agg c.val, .string s, .int .i64 n] w (GivesC c (setV c s n) (place s).isSome w) := by
  have HL := Lib.hid hl
  clear hl
  have HST := Lib.hid (stand_new (w := w) rfl c)
  have CP : Hid (∀ W, Calls Tryz.prog 108 #[.string s] W fun e w' => e = .returned (.int .i64 (plI (place s))) ∧ Below W.heap.size W w') := fun W => place_any s W
  have CA : Hid (∀ W, Calls Tryz.prog 61 #[.agg c.val] W (GivesN c.num W)) := fun W => all_any c W
  have CO : Hid (∀ g f W, NumsAt W g f → Calls Tryz.prog 109 #[.agg c.val, .slice (some ⟨g, 0, none⟩) 19 19] W fun e w' => e = .returned (.agg (c.with f).val) ∧ Below W.heap.size W w') := fun g f W h => of_any c g f W h
  cases hp : place s with
  | some i =>
    obtain ⟨hi, -⟩ := place_lt 19 i hp
    have HV : Hid (setV c s n = c.set i n) := by show _ = _; unfold setV; rw [hp]
    have HP : Hid (plI (some i) = (i : Int)) := rfl
    rw [HV.out]
    rw [hp, HP.out] at CP
    have hi1 : (i : Int) < 19 := by omega
    have hi0 : (0 : Int) ≤ (i : Int) := by omega
    have n0 : ¬ (i : Int) < 0 := by omega
    clear hp HV
    go_enter Tryz.func60, Tryz.ntmps60
    go_wp2_with (first
      | (go_at_call 108; (with_reducible refine (CP.out _).mono ?_); rintro e w1 ⟨rfl, hb1⟩; have HB1 := Lib.hid hb1; clear hb1; have HS1 := Lib.hid ((HST.out.below (below_al (Below.refl _ _) _)).below HB1.out); have HZ1 : Hid (w1.heap[w.heap.size + 1]? = some (.cells zeroC.val 41 (0, 0))) := ((HB1.out.block (w.heap.size + 1) (by simp)).trans (heap_alloc2_new w _ _)))
      | (refine load_cmd rfl (.tmp 3) rfl w.heap.size rfl c HS1.out ?_)
      | (go_at_call 61; (with_reducible refine (CA.out _).mono ?_); rintro e w2 ⟨g2, rfl, hg2, HN2, HB2⟩; have cx := HN2.out.cell i hi; have fx : w2.frozen? ⟨g2, i, none⟩ = false := World.rowIs.frozen HN2.out i; have HB12 := Lib.hid (below2 (below_al (below_al (Below.refl w.heap.size w) _) _) (below2 HB1.out HB2.out)); have HS2 := Lib.hid (HS1.out.below HB2.out); have hgw : w.heap.size + 1 < w1.heap.size := (Array.getElem?_eq_some_iff.1 HZ1.out).1; have HS3 := Lib.hid (World.rowIs.setOther HS2.out (a := ⟨g2, i, none⟩) (by show w.heap.size ≠ g2; omega) (.int .i64 n)); have HN3 := Lib.hid (HN2.out.set i n); obtain ⟨hz3, hb3⟩ := set_keeps (i := i) n HZ1.out hg2 HB2.out HB12.out (by omega); have HZ3 := Lib.hid hz3; have HB3 := Lib.hid hb3; clear hz3 hb3)
      | (refine load_cmd rfl (.tmp 3) rfl w.heap.size rfl c HS3.out ?_)
      | (go_at_call 109; (with_reducible refine (CO.out _ _ _ HN3.out).mono ?_); rintro e w4 ⟨rfl, hb4⟩; have HZ4 := Lib.hid ((hb4.block _ (Array.getElem?_eq_some_iff.1 HZ3.out).1).trans HZ3.out); have HB4 := Lib.hid (below2 HB3.out hb4); clear hb4)
      | (refine store_cmd rfl (.tmp 6) (.tmp 23) rfl rfl (w.heap.size + 1) (c.set i n) zeroC rfl rfl HZ4.out ?_))
    try simp only [Exit.inBlock, Exit.then]
    refine bodyPost_ret (v := .tuple #[.agg (c.set i n).val, .bool true]) (ret_cmd rfl _ _ (w.heap.size + 1) (c.set i n) _ rfl rfl (setRow_cmd _ HZ4.out)) rfl ⟨c.set i n, rfl, Eqv.refl _, ?_, ?_, ⟨fun x h => Or.inl h, fun x h => Or.inl h⟩⟩
    · exact Lies.below (c := c.set i n) ⟨HL.out.g, HL.out.w⟩ (below_setRow HB4.out _ (by omega) _)
    · exact below_setRow HB4.out _ (by omega) _
  | none =>
    have HV : Hid (setV c s n = zeroC) := by show _ = _; unfold setV; rw [hp]
    have HP : Hid (plI none = -1) := rfl
    rw [HV.out]
    rw [hp, HP.out] at CP
    clear hp HV
    go_enter Tryz.func60, Tryz.ntmps60
    go_wp2_with (first
      | (go_at_call 108; (with_reducible refine (CP.out _).mono ?_); rintro e w1 ⟨rfl, hb1⟩; have HB1 := Lib.hid hb1; clear hb1; have HZ1 : Hid (w1.heap[w.heap.size + 1]? = some (.cells zeroC.val 41 (0, 0))) := ((HB1.out.block (w.heap.size + 1) (by simp)).trans (heap_alloc2_new w _ _)))
      | (refine wpList_buildTo rfl 41 _ rfl (some 14) rfl zeroC.val (by as_aux_lemma => kernel_rfl) ?_)
      | (refine store_cmd rfl (.tmp 6) (.tmp 14) rfl rfl (w.heap.size + 1) zeroC zeroC rfl rfl HZ1.out ?_))
    try simp only [Exit.inBlock, Exit.then]
    have HB2 := Lib.hid (below2 (below_al (below_al (Below.refl w.heap.size w) _) _) HB1.out)
    refine bodyPost_ret (v := .tuple #[.agg zeroC.val, .bool false]) (ret_cmd rfl _ _ (w.heap.size + 1) zeroC _ rfl rfl (setRow_cmd _ HZ1.out)) rfl ⟨zeroC, rfl, Eqv.refl _, Lies.zero _, ?_, ⟨fun x h => (by cases h), fun x h => (by cases h)⟩⟩
    exact below_setRow HB2.out _ (by omega) _
set_option maxRecDepth 100000 in
set_option maxHeartbeats 4000000 in
theorem set2_any (c : CmdIn) (s : ByteArray) (n : Int) (w : World) (hl : Lies w c) (hn : c.gives.length ≤ 100 ∧ c.wants.length ≤ 100) : Calls Tryz.prog 106 #[.agg c.val, .string s, .int .i64 n] w (GivesC c (setV c s n) (place s).isSome w) := by
  have HL := Lib.hid hl
  have HN := Lib.hid hn
  clear hl hn
  have HST := Lib.hid (stand_new (w := w) rfl c)
  have CF : Hid (∀ g W, Calls Tryz.prog 74 #[.pointer (some ⟨g, 0, none⟩), .string s] W fun e w' => e = .returned (.pointer (at0 g (place s))) ∧ W = w') := fun g W => field_any g s W
  have CK : Hid (∀ (a : Option Addr) (c : Nat) (l : List Stk) (n : Nat), l.length = n → n ≤ 100 → ∀ w, Stks w a l → Calls Tryz.prog 135 #[.slice a n c] w (GivesS l w)) := fun a c l n hn hl w h => clone_any a c l n hn hl w h
  cases hp : place s with
  | some i =>
    obtain ⟨hi, -⟩ := place_lt 19 i hp
    have HV : Hid (setV c s n = c.set i n) := by show _ = _; unfold setV; rw [hp]
    rw [HV.out]
    rw [hp] at CF
    have HS0 := Lib.hid (HST.out.below (below_al (Below.refl _ _) (.cells zeroC.val 41)))
    have hx := HS0.out.num i hi
    have fx := num_frozen HS0.out (1 + i)
    have hv := val_num c i hi
    obtain ⟨W0, hW0⟩ : ∃ W0, Hid (W0 = (w.alloc (.cells c.val 41)).alloc (.cells zeroC.val 41)) := ⟨_, rfl⟩
    clear hp HV
    unfold at0 at CF
    obtain ⟨V, hV⟩ : ∃ V, Hid (c.val = V) := ⟨_, rfl⟩
    rw [hV.out] at hx fx hv ⊢
    go_enter Tryz.func106, Tryz.ntmps106
    go_wp2_with (go_at_call 74; (with_reducible refine (CF.out _ _).mono ?_); rintro e w1 ⟨rfl, rfl⟩)
    rw [← hV.out]
    refine wp_named fun W hW => ?_
    have hW2 : W = (((w.alloc (.cells c.val 41)).alloc (.cells zeroC.val 41)).setCell ⟨w.heap.size, 1 + i, none⟩ (.int .i64 n)) := by rw [hW]; go_simp; rfl
    have HS : Hid (Stand W w.heap.size (c.set i n)) := by rw [hW2]; exact HS0.out.set i hi n
    have HB : Hid (Below w.heap.size w W) := by rw [hW2]; exact (below_al (below_al (Below.refl _ _) _) _).setCell (Nat.le_refl _) _
    have HZ : Hid (W.heap[w.heap.size + 1]? = some (.cells zeroC.val 41 (0, 0))) := by
      rw [hW2]
      exact (Below.heap_setCell _ _ _ _ (by show w.heap.size + 1 ≠ w.heap.size; omega)).trans (heap_alloc2_new w _ _)
    have HLW : Hid (Lies W.drew c) := HL.out.below (below_dN HB.out 1)
    have hgW : w.heap.size < W.drew.heap.size := World.rowIs.lt HS.out
    have fz := num_frozen HS.out
    have hH0 : W.drew.cell? ⟨w.heap.size, 20, none⟩ = some (.slice c.ga c.gives.length c.gc) ∧ W.drew.cell? ⟨w.heap.size, 21, none⟩ = some (.slice c.wa c.wants.length c.wc) := ⟨World.rowIs.cell HS.out (i := 20) (by decide), World.rowIs.cell HS.out (i := 21) (by decide)⟩
    clear hW hW2 hx fx hv
    refine Ord.wp_region_U (fun W' => W'.cell? ⟨w.heap.size, 20, none⟩ = some (.slice c.ga c.gives.length c.gc) ∧ W'.cell? ⟨w.heap.size, 21, none⟩ = some (.slice c.wa c.wants.length c.wc)) [7, 8, 9] (by kernel_rfl) ?_
    have hHeld := hH0
    refine Ord.wpAnyU_take (i := 0) (v := ?_) rfl (by kernel_rfl) (by kernel_rfl) (by kernel_rfl) (by kernel_rfl) (by kernel_rfl) (by kernel_rfl) (by kernel_rfl) (fun _ _ _ h => h) (Or.inl ⟨by rfl, ?_⟩) hHeld ?_
    rotate_left
    · intro w hSw; (try dsimp only at hSw); go_simp; (try with_reducible rfl)
    try simp only [Act.put, List.setIfInBounds_toArray, List.set_cons_zero, List.set_cons_succ]
    refine Ord.wpAnyU_take (i := 1) (v := ?_) rfl (by kernel_rfl) (by kernel_rfl) (by kernel_rfl) (by kernel_rfl) (by kernel_rfl) (by kernel_rfl) (by kernel_rfl) (fun _ _ _ h => h) (Or.inl ⟨by rfl, ?_⟩) hHeld ?_
    rotate_left
    · intro w hSw; (try dsimp only at hSw); go_simp; (try with_reducible rfl)
    try simp only [Act.put, List.setIfInBounds_toArray, List.set_cons_zero, List.set_cons_succ]
    refine Ord.wpAnyU_take (i := 3) (v := ?_) rfl (by kernel_rfl) (by kernel_rfl) (by kernel_rfl) (by kernel_rfl) (by kernel_rfl) (by kernel_rfl) (by kernel_rfl) (fun _ _ _ h => h) (Or.inl ⟨by rfl, ?_⟩) hHeld ?_
    rotate_left
    · intro w hSw; (try dsimp only at hSw); go_simp; (try with_reducible rfl)
    try simp only [Act.put, List.setIfInBounds_toArray, List.set_cons_zero, List.set_cons_succ]
    refine Ord.wpAnyU_take (i := 4) (v := ?_) rfl (by kernel_rfl) (by kernel_rfl) (by kernel_rfl) (by kernel_rfl) (by kernel_rfl) (by kernel_rfl) (by kernel_rfl) (fun _ _ _ h => h) (Or.inl ⟨by rfl, ?_⟩) hHeld ?_
    rotate_left
    · intro w hSw; (try dsimp only at hSw); go_simp; (try with_reducible rfl)
    try simp only [Act.put, List.setIfInBounds_toArray, List.set_cons_zero, List.set_cons_succ]
    refine Ord.wpAnyU_one (i := 2) (by kernel_rfl) rfl (fun K hK => ?_)
    go_simp
    go_wp2_with ((go_at_call 135; (with_reducible refine (CK.out _ _ _ _ rfl HN.out.1 _ HLW.out.g).mono ?_); rintro e w1 ⟨a1, c1, rfl, HK1, HB1, HF1⟩; have hs1 : _ ∧ _ := ⟨(HB1.out.cell (p := ⟨w.heap.size, 20, none⟩) hgW).trans hH0.1, (HB1.out.cell (p := ⟨w.heap.size, 21, none⟩) hgW).trans hH0.2⟩; have HL1 := Lib.hid (Lies.below HLW.out HB1.out); have hg1 : w.heap.size < w1.heap.size := Nat.lt_of_lt_of_le hgW HB1.out.size))
    refine hK.out _ _ (fun _ => hs1) ?_
    clear hK K
    try simp only [Act.put, List.setIfInBounds_toArray, List.set_cons_zero, List.set_cons_succ]
    refine Ord.wpAnyU_one (i := 5) (by kernel_rfl) rfl (fun K hK => ?_)
    go_simp
    go_wp2_with ((go_at_call 135; (with_reducible refine (CK.out _ _ _ _ rfl HN.out.2 _ HL1.out.w).mono ?_); rintro e w2 ⟨a2, c2, rfl, HK2, HB2, HF2⟩; have hs2 : _ ∧ _ := ⟨(HB2.out.cell (p := ⟨w.heap.size, 20, none⟩) hg1).trans hs1.1, (HB2.out.cell (p := ⟨w.heap.size, 21, none⟩) hg1).trans hs1.2⟩; have HK12 := Lib.hid (HK1.out.below HB2.out); have HS2 : Hid (Stand w2 w.heap.size (c.set i n)) := Stand.below (Stand.below (w := W.drew) HS.out HB1.out) HB2.out; have fz20 := num_frozen HS2.out 20; have fz21 := num_frozen HS2.out 21; have k20 := hs2.1; have k21 := hs2.2))
    refine hK.out _ _ (fun _ => hs2) ?_
    clear hK K
    try simp only [Act.put, List.setIfInBounds_toArray, List.set_cons_zero, List.set_cons_succ]
    refine Ord.wpAnyU_one (i := 6) (by kernel_rfl) rfl (fun K hK => ?_)
    go_simp
    refine hK.out _ _ (fun _ => hs2) ?_
    clear hK K
    try simp only [Act.put, List.setIfInBounds_toArray, List.set_cons_zero, List.set_cons_succ]
    refine Ord.wpAnyU_one (i := 7) (by kernel_rfl) rfl (fun K hK => ?_)
    go_simp
    refine hK.out _ _ (fun h => by cases h) ?_
    clear hK K
    try simp only [Act.put, List.setIfInBounds_toArray, List.set_cons_zero, List.set_cons_succ]
    refine Ord.wpAnyU_one (i := 8) (by kernel_rfl) rfl (fun K hK => ?_)
    go_simp
    refine hK.out _ _ (fun h => by cases h) ?_
    clear hK K
    try simp only [Act.put, List.setIfInBounds_toArray, List.set_cons_zero, List.set_cons_succ]
    refine Ord.wpAnyU_one (i := 9) (by kernel_rfl) rfl (fun K hK => ?_)
    go_simp
    refine hK.out _ _ (fun h => by cases h) ?_
    clear hK K
    try simp only [Act.put, List.setIfInBounds_toArray, List.set_cons_zero, List.set_cons_succ]
    refine Ord.wpAnyU_done (by kernel_rfl) ?_ _
    have HS3 : Hid (Stand ((w2.setCell ⟨w.heap.size, 20, none⟩ (.slice a1 c.gives.length c1)).setCell ⟨w.heap.size, 21, none⟩ (.slice a2 c.wants.length c2)) w.heap.size ((c.set i n).at a1 c1 a2 c2)) := HS2.out.at a1 c1 a2 c2
    have HB4 : Hid (Below w.heap.size w w2) := (below_dN HB.out 1).trans ((below2 HB1.out HB2.out).mono (Nat.le_of_lt hgW))
    have HB3 := Lib.hid ((HB4.out.setCell (p := ⟨w.heap.size, 20, none⟩) (Nat.le_refl _) (.slice a1 c.gives.length c1)).setCell (p := ⟨w.heap.size, 21, none⟩) (Nat.le_refl _) (.slice a2 c.wants.length c2))
    have HZ2 : Hid (((w2.setCell ⟨w.heap.size, 20, none⟩ (.slice a1 c.gives.length c1)).setCell ⟨w.heap.size, 21, none⟩ (.slice a2 c.wants.length c2)).heap[w.heap.size + 1]? = some (.cells zeroC.val 41 (0, 0))) := by
      refine (Below.heap_setCell _ _ _ _ (by show w.heap.size + 1 ≠ w.heap.size; omega)).trans ((Below.heap_setCell _ _ _ _ (by show w.heap.size + 1 ≠ w.heap.size; omega)).trans ?_)
      exact ((below2 HB1.out HB2.out).block _ (Array.getElem?_eq_some_iff.1 HZ.out).1).trans HZ.out
    have HL3 : Hid (Lies ((w2.setCell ⟨w.heap.size, 20, none⟩ (.slice a1 c.gives.length c1)).setCell ⟨w.heap.size, 21, none⟩ (.slice a2 c.wants.length c2)) ((c.set i n).at a1 c1 a2 c2)) := by
      have f1 := HF1.out
      have f2 := HF2.out
      have s1 := HB1.out.size
      exact ⟨Stks.setCell (Stks.setCell HK12.out (fun x hx => by have := f1 x hx; show x.block ≠ w.heap.size; omega) _) (fun x hx => by have := f1 x hx; show x.block ≠ w.heap.size; omega) _,
        Stks.setCell (Stks.setCell HK2.out (fun x hx => by have := f2 x hx; show x.block ≠ w.heap.size; omega) _) (fun x hx => by have := f2 x hx; show x.block ≠ w.heap.size; omega) _⟩
    generalize ((w2.setCell ⟨w.heap.size, 20, none⟩ (.slice a1 c.gives.length c1)).setCell ⟨w.heap.size, 21, none⟩ (.slice a2 c.wants.length c2)) = w3 at *
    go_wp2_with (first
      | (refine load_cmd rfl (.tmp 3) rfl w.heap.size rfl ((c.set i n).at a1 c1 a2 c2) HS3.out ?_)
      | (refine store_cmd rfl (.tmp 6) (.tmp 25) rfl rfl (w.heap.size + 1) ((c.set i n).at a1 c1 a2 c2) zeroC rfl rfl HZ2.out ?_))
    have HFR : Hid ((∀ x, ((c.set i n).at a1 c1 a2 c2).ga = some x → c.ga = some x ∨ w.heap.size ≤ x.block) ∧ ∀ x, ((c.set i n).at a1 c1 a2 c2).wa = some x → c.wa = some x ∨ w.heap.size ≤ x.block) := by
      have f1 := HF1.out
      have f2 := HF2.out
      have s1 := HB1.out.size
      refine ⟨fun x h => Or.inr ?_, fun x h => Or.inr ?_⟩
      · have := f1 x h
        omega
      · have := f2 x h
        omega
    try simp only [Exit.inBlock, Exit.then]
    refine bodyPost_ret (v := .tuple #[.agg ((c.set i n).at a1 c1 a2 c2).val, .bool true]) (ret_cmd rfl _ _ (w.heap.size + 1) ((c.set i n).at a1 c1 a2 c2) _ rfl rfl (setRow_cmd _ HZ2.out)) rfl ⟨(c.set i n).at a1 c1 a2 c2, rfl, ⟨rfl, rfl, rfl, rfl⟩, ?_, ?_, HFR⟩
    · have f1 := HF1.out
      have f2 := HF2.out
      have s1 := HB1.out.size
      have s0 : w.heap.size + 1 < W.drew.heap.size := (Array.getElem?_eq_some_iff.1 HZ.out).1
      exact ⟨Stks.setRow HL3.out.g (fun x hx => by have := f1 x hx; omega) _, Stks.setRow HL3.out.w (fun x hx => by have := f2 x hx; omega) _⟩
    · exact below_setRow HB3.out _ (by omega) _
  | none =>
    have HV : Hid (setV c s n = zeroC) := by show _ = _; unfold setV; rw [hp]
    rw [HV.out]
    rw [hp] at CF
    clear hp HV
    unfold at0 at CF
    have HZ : Hid (((w.alloc (.cells c.val 41)).alloc (.cells zeroC.val 41)).heap[w.heap.size + 1]? = some (.cells zeroC.val 41 (0, 0))) := heap_alloc2_new w _ _
    generalize c.val = V at *
    go_enter Tryz.func106, Tryz.ntmps106
    go_wp2_with (first
      | (go_at_call 74; (with_reducible refine (CF.out _ _).mono ?_); rintro e w1 ⟨rfl, rfl⟩)
      | (refine wpList_buildTo rfl 41 _ rfl (some 13) rfl zeroC.val (by as_aux_lemma => kernel_rfl) ?_)
      | (refine store_cmd rfl (.tmp 6) (.tmp 13) rfl rfl (w.heap.size + 1) zeroC zeroC rfl rfl HZ.out ?_))
    try simp only [Exit.inBlock, Exit.then]
    have HB2 := Lib.hid (below_al (below_al (Below.refl w.heap.size w) (.cells V 41)) (.cells zeroC.val 41))
    refine bodyPost_ret (v := .tuple #[.agg zeroC.val, .bool false]) (ret_cmd rfl _ _ (w.heap.size + 1) zeroC _ rfl rfl (setRow_cmd _ HZ.out)) rfl ⟨zeroC, rfl, Eqv.refl _, Lies.zero _, ?_, ⟨fun x h => (by cases h), fun x h => (by cases h)⟩⟩
    exact below_setRow HB2.out _ (by omega) _
end Cmd
end Go.Proofs.YtlhalhilnkneeaaGreatDoor
end
section
set_option maxRecDepth 100000
namespace Go.Proofs.YtlhalhilnkneeaaGreatDoor
open Go.RowKit Go.Great
namespace Asm
open Go.Lib (decDigits itoa)
open Pen (bs)
open In (strVals Strs)
open Frm (rows)
open Rec (below2 below_al below_dN Stk Stks stkVals)
open Cat (Bx)
open Cmd (Gives Snum CmdIn fi fn nm place chkV Cok Lies Stand Eqv zeroC)
/-- One element behind a row of one's own: and where the row then lies. -/
theorem list_one_at {P : Program} {ops : Array Oper} {rest : List Oper} {o : Oper} {a : Act} {w : World} {Q : Exit → Act → World → Prop} (hgd : o.guard = none) (s x : Operand) (t : TypeId)
    (ho : o.op = .call { callee := .builtin .append, args := #[s, x], argTypes := #[t, t] })
    (base : Nat) (e : TypeId) (i : TypeInfo) (z : Value) (bytes : Nat) (ht : P.underlying t = some (.slice e)) (hi : P.info? e = some i) (hz : i.zero = some z)
    (hsize : i.size = 1) (hby : i.bytes = bytes) (hzs : z.cells.size = 1)
    (v : Value) (n : Nat) (xs : List Value) (hs : a.eval s = v) (ad : Addr) (c : Nat) (u : Value) (hx : a.eval x = .slice (some ad) 1 c) (hown : w.ownsRow base e 1 v n xs)
    (hu : w.cell? ad = some u) (h1 : u.oneCell' = true) (h63 : n + 1 ≤ maxLen) (hbytes : (n + 1) * bytes ≤ 140737488355328) (hbase : base ≤ w.heap.size)
    (h : ∀ g cap w', w'.ownsRow base e 1 (.slice (some ⟨g, 0, none⟩) (n + 1) cap) (n + 1) (xs ++ [u]) → w.grownBy w' v.ownBlock → (v.ownBlock = some g ∨ g = w.heap.size) → wpList P ops Q rest (a.put o.dst (.slice (some ⟨g, 0, none⟩) (n + 1) cap)) w') : wpList P ops Q (o :: rest) a w :=
  wpList_append_lies w hgd s x t ho base e i z 1 bytes ht hi hz hsize hby hzs (by decide) v n xs hs hown ad 1 c [u] hx rfl
    (fun j u2 hj => by cases j with
      | zero => simp at hj; subst hj; simpa [Addr.add] using hu
      | succ j => simp at hj) (fun u2 hw => by simp at hw; subst hw; exact h1) (by decide) h63 hbytes hbase _ rfl
    (fun g cap w' hown' hgrow hg _ => h g cap w' hown' hgrow hg)
/-- Where a command's stacks lie. -/
def At (c : CmdIn) (x : Addr) : Prop := (c.gives ≠ [] ∧ c.ga = some x) ∨ (c.wants ≠ [] ∧ c.wa = some x)
theorem stks_lt {W : World} {a : Option Addr} {l : List Stk} (h : Stks W a l) (hl : l ≠ []) {x : Addr} (hx : a = some x) : x.block < W.heap.size := by
  obtain ⟨b, off, e, hb, -⟩ := h 0 (List.length_pos_iff.2 hl)
  rw [hx] at e
  cases e
  exact hb
theorem stks_keep {W V : World} {a : Option Addr} {l : List Stk} (h : Stks W a l) (hk : l ≠ [] → ∀ x, a = some x → V.heap[x.block]? = W.heap[x.block]? ∧ x.block < V.heap.size) : Stks V a l := fun i hi => by
  obtain ⟨b, off, e, hb, c1, c2⟩ := h i hi
  have hl : l ≠ [] := fun e => by rw [e] at hi; exact absurd hi (Nat.not_lt_zero _)
  obtain ⟨k1, k2⟩ := hk hl _ e
  exact ⟨b, off, e, k2, (World.cell?_of_block (a := ⟨b, off + i * 2, none⟩) k1).trans c1, (World.cell?_of_block (a := ⟨b, off + i * 2 + 1, none⟩) k1).trans c2⟩
theorem lies_lt {W : World} {c : CmdIn} (h : Lies W c) {x : Addr} (hx : At c x) : x.block < W.heap.size := by
  rcases hx with ⟨h1, h2⟩ | ⟨h1, h2⟩
  · exact stks_lt h.g h1 h2
  · exact stks_lt h.w h1 h2
theorem lies_keep {W V : World} {c : CmdIn} (h : Lies W c) (hk : ∀ x, At c x → V.heap[x.block]? = W.heap[x.block]? ∧ x.block < V.heap.size) : Lies V c :=
  ⟨stks_keep h.g fun h1 x hx => hk x (Or.inl ⟨h1, hx⟩), stks_keep h.w fun h1 x hx => hk x (Or.inr ⟨h1, hx⟩)⟩
/-- Two boxes and a row of names, while fields are read. -/
structure PS (w L W : World) (rb cb : Nat) (c : CmdIn) (v : Value) (seen : List (List UInt8)) : Prop where
  bel : Below w.heap.size w W
  bx : Bx L.heap.size (fun k => k = cb) L W
  box : Stand W cb c
  res : W.heap[rb]? = some (.cells zeroC.val 41 (0, 0))
  own : W.ownsRow L.heap.size 9 1 v seen.length (strVals (rows seen))
  lies : Lies W c
  far : ∀ x, At c x → some x.block ≠ v.ownBlock ∧ x.block ≠ cb ∧ x.block ≠ rb ∧ w.heap.size ≤ x.block
  num : rb < L.heap.size ∧ cb < L.heap.size ∧ rb ≠ cb ∧ w.heap.size ≤ rb ∧ w.heap.size ≤ cb
theorem PS.le {w L W : World} {rb cb : Nat} {c : CmdIn} {v : Value} {seen : List (List UInt8)} (h : PS w L W rb cb c v seen) : w.heap.size ≤ L.heap.size ∧ L.heap.size ≤ W.heap.size := by
  have h1 := h.num
  have h2 := h.bx.size
  omega
theorem PS.below {w L W V : World} {rb cb : Nat} {c : CmdIn} {v : Value} {seen : List (List UInt8)} (h : PS w L W rb cb c v seen) (hb : Below W.heap.size W V) : PS w L V rb cb c v seen :=
  ⟨below2 h.bel hb, h.bx.below h.le.2 hb, h.box.below hb, (hb.block rb (Array.getElem?_eq_some_iff.1 h.res).1).trans h.res, Own.own_below h.own hb, h.lies.below hb, h.far, h.num⟩
theorem PS.app {w L W V : World} {rb cb : Nat} {c : CmdIn} {v : Value} {seen : List (List UInt8)} {s : List UInt8} {g cap : Nat} (h : PS w L W rb cb c v seen) (ho : V.ownsRow L.heap.size 9 1 (.slice (some ⟨g, 0, none⟩) (seen.length + 1) cap) (seen.length + 1) (strVals (rows seen) ++ [.string (bs s)])) (hg : W.grownBy V v.ownBlock) (hat : v.ownBlock = some g ∨ g = W.heap.size) : PS w L V rb cb c (.slice (some ⟨g, 0, none⟩) (seen.length + 1) cap) (seen ++ [s]) := by
  obtain ⟨n1, n2, n3, n4, n5⟩ := h.num
  have hl := h.le
  have hob : ∀ k, v.ownBlock = some k → L.heap.size ≤ k := fun k hk => (h.own.lt k hk).1
  have hne : ∀ k, k < L.heap.size → some k ≠ v.ownBlock := fun k hk e => by have := hob k e.symm; omega
  have ho2 : V.ownsRow L.heap.size 9 1 (.slice (some ⟨g, 0, none⟩) (seen.length + 1) cap) (seen ++ [s]).length (strVals (rows (seen ++ [s]))) := by
    rw [List.length_append]
    simpa [strVals, rows, bs] using ho
  refine ⟨h.bel.grown hg (by omega) (fun k hk => by have := hob k hk; omega), h.bx.grown hg hl.2 (fun k hk => Or.inl (hob k hk)), World.rowIs.of_block h.box (hg.block cb (World.rowIs.lt h.box) (hne cb n2)), (hg.block rb (Array.getElem?_eq_some_iff.1 h.res).1 (hne rb n1)).trans h.res, ho2, ?_, fun x hx => ?_, h.num⟩
  · exact lies_keep h.lies fun x hx => ⟨hg.block x.block (lies_lt h.lies hx) (h.far x hx).1, Nat.lt_of_lt_of_le (lies_lt h.lies hx) hg.size⟩
  · obtain ⟨f1, f2, f3, f4⟩ := h.far x hx
    refine ⟨fun e => ?_, f2, f3, f4⟩
    have e1 : x.block = g := Option.some.inj e
    rcases hat with e2 | e2
    · exact f1 (by rw [e2, e1])
    · have := lies_lt h.lies hx
      omega
theorem PS.set {w L W V : World} {rb cb : Nat} {c c2 : CmdIn} {v : Value} {seen : List (List UInt8)} (h : PS w L W rb cb c v seen) (hl : Lies W c2) (hf : ∀ x, At c2 x → some x.block ≠ v.ownBlock ∧ x.block ≠ cb ∧ x.block ≠ rb ∧ w.heap.size ≤ x.block) (hs : Stand V cb c2) (hg : W.grownBy V (some cb)) : PS w L V rb cb c2 v seen := by
  obtain ⟨n1, n2, n3, n4, n5⟩ := h.num
  have hle := h.le
  have hob : ∀ k, v.ownBlock = some k → L.heap.size ≤ k := fun k hk => (h.own.lt k hk).1
  refine ⟨h.bel.grown hg (by omega) (fun k hk => by cases hk; exact n5), h.bx.grown hg hle.2 (fun k hk => by cases hk; exact Or.inr rfl), hs, (hg.block rb (Array.getElem?_eq_some_iff.1 h.res).1 (fun e => n3 (Option.some.inj e))).trans h.res, h.own.kept hg (Or.inr fun e => by have := hob cb e; omega), ?_, hf, h.num⟩
  exact lies_keep hl fun x hx => ⟨hg.block x.block (lies_lt hl hx) (fun e => (hf x hx).2.1 (Option.some.inj e)), Nat.lt_of_lt_of_le (lies_lt hl hx) hg.size⟩
/-- The command of a line, as it is given. -/
def GivesP (o : Option CmdIn) (w : World) (e : Ending) (w' : World) : Prop := ∃ c', e = .returned (.tuple #[.agg c'.val, .int .i64 (if o.isSome then 0 else 2)]) ∧ Hid (Eqv c' (o.getD zeroC)) ∧ Hid (Lies w' c') ∧ Hid (Below w.heap.size w w') ∧ Hid (∀ x, At c' x → w.heap.size ≤ x.block)
theorem setRow_grown (W : World) (g : Nat) (cs : Array Value) : W.grownBy (W.setRow g cs) (some g) :=
  ⟨rfl, rfl, rfl, by simp [World.setRow], fun k hk hne => by simp only [World.setRow, Array.getElem?_modify]; rw [if_neg (fun e => hne (by rw [e]))]⟩
theorem PS.no {w L W : World} {rb cb : Nat} {c : CmdIn} {v : Value} {seen : List (List UInt8)} (h : PS w L W rb cb c v seen) : Below w.heap.size w (W.setRow rb zeroC.val) := by
  obtain ⟨n1, n2, n3, n4, n5⟩ := h.num
  have := h.le
  exact h.bel.grown (setRow_grown W rb _) (by omega) (fun k hk => by cases hk; exact n4)
theorem GivesP.no {w W : World} {o : Option CmdIn} (ho : o = none) (hb : Below w.heap.size w W) : GivesP o w (.returned (.tuple #[.agg zeroC.val, .int .i64 2])) W := by
  subst ho
  exact ⟨zeroC, rfl, Eqv.refl _, Lies.zero _, hb, fun x hx => (by rcases hx with ⟨h, -⟩ | ⟨h, -⟩ <;> exact absurd rfl h)⟩
theorem PS.yes {w L W : World} {rb cb : Nat} {c d : CmdIn} {v : Value} {seen : List (List UInt8)} {o : Option CmdIn} (h : PS w L W rb cb c v seen) (ho : o = some d) (he : Eqv c d) : GivesP o w (.returned (.tuple #[.agg c.val, .int .i64 0])) (W.setRow rb c.val) := by
  obtain ⟨n1, n2, n3, n4, n5⟩ := h.num
  have := h.le
  subst ho
  have hg := setRow_grown W rb c.val
  exact ⟨c, rfl, he, lies_keep h.lies fun x hx => ⟨hg.block x.block (lies_lt h.lies hx) (fun e => (h.far x hx).2.2.1 (Option.some.inj e)), Nat.lt_of_lt_of_le (lies_lt h.lies hx) hg.size⟩, h.bel.grown hg (by omega) (fun k hk => by cases hk; exact n4), fun x hx => (h.far x hx).2.2.2⟩
end Asm
end Go.Proofs.YtlhalhilnkneeaaGreatDoor
end
section
namespace Go.Proofs.YtlhalhilnkneeaaGreatDoor
open Go.RowKit Go.Great
namespace Cmd
open Pen (bs bs_append uintB intB I64 intS uintS doneS)
open In (Strs)
open Cat (Rd Rs QP QR Bx pUint_any pInt_any pDone_any pNew_any)
open Rec (below2 below_al below_dN Stk Stks stkVals stkVals_append stks_of_own)
theorem stand_of_heap {w : World} {g : Nat} {c : CmdIn} (h : w.heap[g]? = some (.cells c.val 41 (0, 0))) : Stand w g c := ⟨c.val, h, rfl, fun i hi => val_get c i hi⟩
/-- A command of that kind with such numbers, and no stacks. -/
def bare (k : Int) (f : Nat → Int) : CmdIn := ⟨k, f, [], none, 0, [], none, 0⟩
theorem Stks.bx {w w' : World} {a : Option Addr} {l : List Stk} {E : Nat → Prop} (h : Stks w a l) (hb : Bx w.heap.size E w w') (hE : ∀ x, a = some x → ¬ E x.block) : Stks w' a l := fun i hi => by
  obtain ⟨b, off, e, hlt, hc, hd⟩ := h i hi
  exact ⟨b, off, e, Nat.lt_of_lt_of_le hlt hb.size, hb.keep hlt (hE _ e) hc, hb.keep hlt (hE _ e) hd⟩
/-- The stacks behind so many parts, and what is left. -/
def partS (o : Cat.Left) : Nat → List Stk × List Stk × Cat.Left
  | 0 => ([], [], o)
  | 1 => ((stS o).1, [], (stS o).2)
  | _ => ((stS o).1, (stS (stS o).2).1, (stS (stS o).2).2)
/-- How far the parts are read. -/
structure PartIs (k : Int) (f : Nat → Int) (o : Cat.Left) (far j : Nat) (c : CmdIn) (o' : Cat.Left) : Prop where
  kind : c.kind = k
  num : c.num = f
  gives : c.gives = (partS o j).1
  wants : c.wants = (partS o j).2.1
  left : o' = (partS o j).2.2
  ga : j = 0 → c.ga = none ∧ c.gc = 0
  wa : j ≤ 1 → c.wa = none ∧ c.wc = 0
  fg : ∀ x, c.ga = some x → far ≤ x.block
  fw : ∀ x, c.wa = some x → far ≤ x.block
theorem PartIs.open {k : Int} {f : Nat → Int} {o o' : Cat.Left} {far j : Nat} {c : CmdIn} (h : PartIs k f o far j c o') (hj : j < 2) : c.cell (20 + j) = .slice none 0 0 := by
  match j, hj with
  | 0, _ =>
    obtain ⟨a, b⟩ := h.ga rfl
    have hg := h.gives
    unfold CmdIn.cell
    rw [if_neg (by decide), if_pos rfl, a, b, hg]
    rfl
  | 1, _ =>
    obtain ⟨a, b⟩ := h.wa (Nat.le_refl _)
    have hg := h.wants
    unfold CmdIn.cell
    rw [if_neg (by decide), if_neg (by decide), if_pos rfl, a, b, hg]
    rfl
/-- One part more. -/
theorem PartIs.more {k : Int} {f : Nat → Int} {o o' o2 : Cat.Left} {far j g gb base : Nat} {c : CmdIn} {w4 w : World} {l : List Stk} (h : PartIs k f o far j c o') (hj : j < 2) (hs : stS o' = (l, o2)) (hN : NC 140 QP w4 g gb base (20 + j) c.cell l o2 w) (hfar : far ≤ base)
    (hl : Stks w c.ga c.gives ∧ Stks w c.wa c.wants) : ∃ c', PartIs k f o far (j + 1) c' o2 ∧ Stand w gb c' ∧ Rd 140 QP w g o2 ∧ Lies w c' := by
  obtain ⟨v, hrow, hown⟩ := hN.row
  obtain ⟨a, cap, rfl, hst⟩ := stks_of_own hown
  have hfr := own_far hown
  match j, hj with
  | 0, _ =>
    have ho : o' = o := h.left
    subst ho
    refine ⟨{ c with gives := l, ga := a, gc := cap }, ⟨h.kind, h.num, by show l = (stS o').1; rw [hs], by show c.wants = _; rw [h.wants]; rfl, by show o2 = (stS o').2; rw [hs], fun e => (by cases e), fun _ => h.wa (by decide), fun x hx => Nat.le_trans hfar (hfr x hx), h.fw⟩, World.rowIs.congr hrow fun i hi => ?_, hN.rd, ⟨hst, hl.2⟩⟩
    by_cases e : i = 20
    · subst e; rfl
    · rw [if_neg (by omega)]
      unfold CmdIn.cell
      simp only [if_neg e]
  | 1, _ =>
    have ho : o' = (stS o).2 := h.left
    subst ho
    refine ⟨{ c with wants := l, wa := a, wc := cap }, ⟨h.kind, h.num, by show c.gives = _; rw [h.gives]; rfl, by show l = (stS (stS o).2).1; rw [hs], by show o2 = (stS (stS o).2).2; rw [hs], fun e => (by cases e), fun e => absurd e (by decide), h.fg, fun x hx => Nat.le_trans hfar (hfr x hx)⟩, World.rowIs.congr hrow fun i hi => ?_, hN.rd, ⟨hl.1, hst⟩⟩
    by_cases e : i = 21
    · subst e; rfl
    · rw [if_neg (by omega)]
      unfold CmdIn.cell
      simp only [if_neg e]
theorem tkS_step {n q : Nat} {l : List Stk} {o : Cat.Left} {r : List Stk × Cat.Left} (hq : q < n) (h : (l ++ (tkS (n - q) o).1, (tkS (n - q) o).2) = r) : ((l ++ [((intS o).1, (intS (intS o).2).1)]) ++ (tkS (n - (q + 1)) (intS (intS o).2).2).1, (tkS (n - (q + 1)) (intS (intS o).2).2).2) = r := by
  have e : n - q = (n - (q + 1)) + 1 := by omega
  rw [e, tkS] at h
  rw [← h]
  simp
set_option maxRecDepth 100000 in
set_option maxHeartbeats 4000000 in
theorem take_any (s : ByteArray) (hs : s.size ≤ 1000000000) (w : World) (ht : Tab w) : Calls Tryz.prog 38 #[.string s] w (GivesT (takeV s.data.toList) w) := by
  have HT := Lib.hid ht
  obtain ⟨u, hu⟩ : ∃ u, Hid (uintS 25 (some s.data.toList) = u) := ⟨_, rfl⟩
  have hub := Pen.uint_bounds 25 (some s.data.toList) (by decide)
  rw [hu.out] at hub
  obtain ⟨hu0, hu1, hu2⟩ := hub
  have CN : Hid (Calls Tryz.prog 78 #[.string s] (w.alloc (.cells zeroC.val 41)) fun e w' => e = .returned (.pointer (some ⟨w.heap.size + 1, 0, none⟩)) ∧ Hid (Rd 140 QP w' (w.heap.size + 1) (some s.data.toList)) ∧ Hid (Below (w.heap.size + 1) (w.alloc (.cells zeroC.val 41)) w')) := by
    have h := pNew_any s hs (w.alloc (.cells zeroC.val 41))
    rw [show (w.alloc (.cells zeroC.val 41)).heap.size = w.heap.size + 1 from by simp] at h
    exact h
  have CU : Hid (∀ g o most W, Rd 140 QP W g o → Calls Tryz.prog 79 #[.pointer (some ⟨g, 0, none⟩), .int .i64 most] W (Rs 140 QP W g (uintS most o))) := fun g o most W h => pUint_any g o most W h
  have CI : Hid (∀ g o W, Rd 140 QP W g o → Calls Tryz.prog 80 #[.pointer (some ⟨g, 0, none⟩)] W (Rs 140 QP W g (intS o))) := fun g o W h => pInt_any g o W h
  have CE : Hid (∀ g o W, Rd 140 QP W g o → Calls Tryz.prog 81 #[.pointer (some ⟨g, 0, none⟩)] W fun e w' => e = .returned (.bool (doneS o)) ∧ W = w') := fun g o W h => pDone_any g o W h
  have CF : Hid (∀ W, Tab W → Calls Tryz.prog 65 #[.int .i64 u.1] W (Gives (fn u.1) W)) := fun W h => fields_any u.1 W h
  have CD : Hid (∀ g i W, i < 19 → Calls Tryz.prog 74 #[.pointer (some ⟨g, 0, none⟩), .string (nm i)] W fun e w' => e = .returned (.pointer (some ⟨g, 1 + i, none⟩)) ∧ W = w') := fun g i W hi => by have := field_any g (nm i) W; rw [place_nm hi] at this; exact this
  unfold Rs at *
  obtain ⟨m, hm⟩ : ∃ m, Hid ((fn u.1).length = m) := ⟨_, rfl⟩
  have HFI : Hid ((fi u.1).length = m) := by show _ = _; have := hm.out; unfold fn at this; rwa [List.length_map] at this
  have hm1 : m ≤ 11 := by rw [← HFI.out]; exact fi_len u.1
  obtain ⟨R, hR⟩ : ∃ R, Hid (tkN (fi u.1) (fun _ => 0) u.2 = R) := ⟨_, rfl⟩
  obtain ⟨TV, hTV⟩ : ∃ t, Hid (takeV s.data.toList = t) := ⟨_, rfl⟩
  rw [hTV.out]
  clear ht hs
  go_enter Tryz.func38, Tryz.ntmps38
  go_upto_region 3 with (first
    | (go_at_call 78; (refine CN.out.mono ?_); rintro e w1 ⟨rfl, HR1, HB1⟩; have HZ1 : Hid (w1.heap[w.heap.size]? = some (.cells zeroC.val 41 (0, 0))) := (HB1.out.block w.heap.size (by omega)).trans (heap_alloc_new w _))
    | (go_at_call 79; (with_reducible refine (CU.out _ _ 25 _ HR1.out).mono ?_); rintro e w2 ⟨rfl, HR2, HG2⟩; rw [hu.out] at HR2 ⊢)
    | (refine wpList_buildTo rfl 41 _ rfl (some 15) rfl (bare u.1 fun _ => 0).val (by as_aux_lemma => kernel_rfl) ?_)
    | (refine store_cmd rfl (.tmp 5) (.tmp 15) rfl rfl w2.heap.size (bare u.1 fun _ => 0) zeroC rfl rfl (heap_alloc_new w2 _) ?_))
  refine wp_named fun W0 hW0 => ?_
  have HS0 : Hid (Stand W0 w2.heap.size (bare u.1 fun _ => 0)) := by rw [hW0]; exact stand_of_heap (setRow_cmd _ (c0 := zeroC) (heap_alloc_new w2 _))
  have HB20 : Hid (Below w2.heap.size w2 W0) := by rw [hW0]; exact below_setRow (below_al (Below.refl _ _) _) _ (Nat.le_refl _) _
  clear hW0
  have hs1 : w.heap.size + 1 < w1.heap.size := HR1.out.lt
  have hs2 : w1.heap.size ≤ w2.heap.size := HG2.out.size
  have HZ0 : Hid (W0.heap[w.heap.size]? = some (.cells zeroC.val 41 (0, 0))) := (HB20.out.block _ (by omega)).trans ((HG2.out.block _ (by omega) (fun e => by have := Option.some.inj e; omega)).trans HZ1.out)
  have HR0 := Lib.hid (HR2.out.below HB20.out)
  have HW1 : Hid (Below w.heap.size w w1) := ((Below.refl w.heap.size w).alloc (Nat.le_refl _) _).trans (HB1.out.mono (by omega))
  have HW2 : Hid (Below w.heap.size w w2) := HW1.out.grown HG2.out (by omega) (fun k hk => by cases hk; omega)
  have HW0 : Hid (Below w.heap.size w W0) := HW2.out.trans (HB20.out.mono (by omega))
  have hgl : w.heap.size + 1 < w2.heap.size := by omega
  have hgl0 : w2.heap.size < W0.heap.size := World.rowIs.lt HS0.out
  have hA : w.heap.size < w.heap.size + 1 := by omega
  clear HR1 HB1 HZ1 HR2 HG2 HB20 hs1 hs2 HW1 HW2 CN
  generalize w.heap.size + 1 = g at *
  generalize w2.heap.size = gb at *
  obtain ⟨b0, -, -⟩ := HS0.out.three
  have b0' : W0.cell? ⟨gb, 0, none⟩ = some (.int .i64 u.1) := b0
  clear b0
  go_wp2_with (go_at_call 65; (with_reducible refine (CF.out _ (HT.out.below HW0.out)).mono ?_); rintro e w3 ⟨a3, k3, rfl, HF3, HB3, HFAR⟩; rw [hm.out])
  have HS3 := Lib.hid (HS0.out.below HB3.out)
  have HR3 := Lib.hid (HR0.out.below HB3.out)
  have hs3 : W0.heap.size ≤ w3.heap.size := HB3.out.size
  have HZ3 : Hid (w3.heap[w.heap.size]? = some (.cells zeroC.val 41 (0, 0))) := (HB3.out.block _ (by omega)).trans HZ0.out
  have HW3 := Lib.hid (below2 HW0.out HB3.out)
  go_loopw [21] (fun i wr => ∃ (k : Nat) (f : Nat → Int) (o : Cat.Left), k ≤ m ∧ i = .int .i64 k ∧ Hid (tkN ((fi u.1).drop k) f o = R) ∧ Hid (Stand wr gb (bare u.1 f)) ∧ Hid (Rd 140 QP wr g o) ∧ Hid (Bx w3.heap.size (fun k => k = g ∨ k = gb) w3 wr)) (fun i _ => m - (intOf i).toNat)
  case atStart => exact ⟨0, fun _ => 0, u.2, by omega, rfl, hR, HS3, HR3, Bx.refl _ _ _⟩
  case round =>
    obtain ⟨k, f, o, hk, rfl, HTK, HSr, HRr, HXr⟩ := hrel
    by_cases hlt : k < m
    · obtain ⟨b2, off2, rfl, hbl2, hc2⟩ := HF3.out k (by rw [hm.out]; exact hlt)
      obtain ⟨e1, hi19⟩ := fn_get u.1 k (by rw [HFI.out]; exact hlt)
      rw [e1] at hc2
      have hfar : W0.heap.size ≤ b2 := HFAR.out _ rfl
      have hcr := HXr.out.keep hbl2 (by omega) hc2
      have HTK' : Hid (tkN ((fi u.1).drop (k + 1)) (fun j => if j = (fi u.1).getD k 0 then (intS o).1 else f j) (intS o).2 = R) := by
        have hlt' : k < (fi u.1).length := by rw [HFI.out]; exact hlt
        have h := HTK.out
        rw [List.drop_eq_getElem_cons hlt'] at h
        rw [show (fi u.1).getD k 0 = (fi u.1)[k] from by rw [List.getD_eq_getElem?_getD, List.getElem?_eq_getElem hlt']; rfl]
        exact h
      clear HTK e1 hc2
      have hlt1 : (k : Int) < (m : Int) := by omega
      have d1 : decide ((k : Int) < (m : Int)) = true := decide_eq_true hlt1
      have hk0 : (0 : Int) ≤ k := by omega
      generalize (fi u.1).getD k 0 = I at *
      have hsr : w3.heap.size ≤ wr.heap.size := HXr.out.size
      obtain ⟨r, hr⟩ : ∃ r, Hid (intS o = r) := ⟨_, rfl⟩
      rw [hr.out] at HTK'
      go_wp2_with (first
        | (go_at_call 74; (with_reducible refine (CD.out gb I _ hi19).mono ?_); rintro e w4 ⟨rfl, rfl⟩)
        | (go_at_call 80; (with_reducible refine (CI.out _ _ _ HRr.out).mono ?_); rintro e w5 ⟨rfl, HR5, HG5⟩; rw [hr.out] at HR5 ⊢; have HS5 : Hid (Stand w5 gb (bare u.1 f)) := row_grown HSr.out HG5.out (fun e => by have := Option.some.inj e; omega); have cx5 := HS5.out.num I hi19; have fx5 := num_frozen HS5.out (1 + I)))
      go_roundw
      case rel => exact ⟨k + 1, (fun j => if j = I then r.1 else f j), r.2, by omega, by go_num, HTK', HS5.out.set I hi19 r.1, HR5.out.set (by show gb ≠ g; omega) _, (HXr.out.grown HG5.out hsr (fun k hk => .inr (.inl (by cases hk; rfl)))).set _ _ (.inr (.inr rfl))⟩
      case measure => simp [intOf]; omega
    · have hke : k = m := by omega
      have n1 : ¬ (k : Int) < (m : Int) := by omega
      have d1 : decide ((k : Int) < (m : Int)) = false := decide_eq_false n1
      have HRe : Hid ((f, o) = R) := by
        have h := HTK.out
        rw [hke, ← HFI.out, List.drop_length] at h
        exact h
      subst hke
      clear HTK HF3 HFAR HR3 HS3 HR0 HS0
      obtain ⟨k0, -, -⟩ := HSr.out.three
      have k0' : wr.cell? ⟨gb, 0, none⟩ = some (.int .i64 u.1) := k0
      clear k0
      have HZr : Hid (wr.heap[w.heap.size]? = some (.cells zeroC.val 41 (0, 0))) := (HXr.out.block _ (by omega) (by omega)).trans HZ3.out
      by_cases h14 : u.1 = 14
      · have d14 : (u.1 == 14) = true := beq_iff_eq.2 h14
        have hRe := HRe.out
        subst hRe
        obtain ⟨i0, hi0, hz0, hz1, hz2⟩ := info_parts stkinfo
        go_wp2
        refine wp_named fun W1 hW1 => ?_
        have HP : Hid (W1.cell? ⟨wr.heap.size, 0, none⟩ = some (.pointer (some ⟨gb, 20 + 0, none⟩)) ∧ W1.cell? ⟨wr.heap.size, 1, none⟩ = some (.pointer (some ⟨gb, 20 + 1, none⟩))) := by rw [hW1]; exact ⟨by simp [go_sem], by simp [go_sem]⟩
        have HBW : Hid (Below wr.heap.size wr W1) := by rw [hW1]; exact below_al (Below.refl _ _) _
        have hgP : wr.heap.size < W1.heap.size := by rw [hW1]; simp
        clear hW1
        have hwr : w3.heap.size ≤ wr.heap.size := HXr.out.size
        have HS1 := Lib.hid (HSr.out.below HBW.out)
        have HR1 := Lib.hid (HRr.out.below HBW.out)
        have HZ1 : Hid (W1.heap[w.heap.size]? = some (.cells zeroC.val 41 (0, 0))) := (HBW.out.block _ (by omega)).trans HZr.out
        have HW1 : Hid (Below w.heap.size w W1) := by
          have hx := HXr.out
          have h1 : Below w.heap.size w wr := HW3.out.trans ⟨hx.os, hx.tape, hx.output, hx.size, fun j hj => hx.block j (by omega) (by omega)⟩
          exact below2 h1 HBW.out
        have hgPg : wr.heap.size ≠ g ∧ wr.heap.size ≠ gb := ⟨by omega, by omega⟩
        have hA1 : w.heap.size < W1.heap.size := by omega
        have hg1 : g < W1.heap.size ∧ gb < W1.heap.size := ⟨by omega, by omega⟩
        have HP0 : Hid (PartIs u.1 f o W1.heap.size 0 (bare u.1 f) o) := ⟨rfl, rfl, rfl, rfl, rfl, fun _ => ⟨rfl, rfl⟩, fun _ => ⟨rfl, rfl⟩, fun x hx => (by cases hx), fun x hx => (by cases hx)⟩
        have HL1 : Hid (Lies W1 (bare u.1 f)) := ⟨fun i hi => absurd hi (Nat.not_lt_zero _), fun i hi => absurd hi (Nat.not_lt_zero _)⟩
        clear HSr HRr HXr HZr HW3 HZ3 HBW k0'
        generalize wr.heap.size = gP at *
        go_loopw [38] (fun i wz => ∃ (j : Nat) (c' : CmdIn) (o' : Cat.Left), j ≤ 2 ∧ i = .int .i64 j ∧ Hid (PartIs u.1 f o W1.heap.size j c' o') ∧ Hid (Stand wz gb c') ∧ Hid (Rd 140 QP wz g o') ∧ Hid (Lies wz c') ∧ Hid (Bx W1.heap.size (fun k => k = g ∨ k = gb) W1 wz)) (fun i _ => 2 - (intOf i).toNat)
        case atStart => exact ⟨0, bare u.1 f, o, by omega, rfl, HP0, HS1, HR1, HL1, Bx.refl _ _ _⟩
        case round =>
          obtain ⟨j, c', o', hj, rfl, HPj, HSj, HRj, HLj, HXj⟩ := hrel
          by_cases hj2 : j < 2
          · have hcp := HPj.out.open hj2
            have hptr : wr.cell? ⟨gP, j, none⟩ = some (.pointer (some ⟨gb, 20 + j, none⟩)) := by
              match j, hj2 with
              | 0, _ => exact HXj.out.keep hgP (by omega) HP.out.1
              | 1, _ => exact HXj.out.keep hgP (by omega) HP.out.2
            have hltj : (j : Int) < 2 := by omega
            have dj : decide ((j : Int) < 2) = true := decide_eq_true hltj
            have hj0 : (0 : Int) ≤ j := by omega
            have hszj : W1.heap.size ≤ wr.heap.size := HXj.out.size
            obtain ⟨r, hr⟩ : ∃ r, Hid (uintS 8 o' = r) := ⟨_, rfl⟩
            obtain ⟨r0, r8, -⟩ := Pen.uint_bounds 8 o' (by decide)
            rw [hr.out] at r0 r8
            obtain ⟨n, hn⟩ : ∃ n : Nat, r.1 = (n : Int) := ⟨r.1.toNat, by omega⟩
            have HST : Hid (stS o' = tkS n r.2) := by show _ = _; unfold stS; rw [hr.out, hn]; rfl
            go_wp2_with (go_at_call 79; (with_reducible refine (CU.out _ _ 8 _ HRj.out).mono ?_); rintro e w4 ⟨rfl, HR4, HG4⟩; rw [hr.out] at HR4 ⊢; rw [hn])
            have HW4 : Hid (w4.rowIs gb 41 22 c'.cell) := row_grown HSj.out HG4.out (fun e => by have := Option.some.inj e; omega)
            have hsz4 : wr.heap.size ≤ w4.heap.size := HG4.out.size
            have HX4 : Hid (Bx wr.heap.size (fun k => k = g ∨ k = gb) wr w4) := (Bx.refl _ _ _).grown HG4.out (Nat.le_refl _) (fun k e => .inr (.inl (by cases e; rfl)))
            have HSTK : Hid (∀ X, Bx w4.heap.size (fun k => k = g ∨ k = gb) w4 X → (Stks X c'.ga c'.gives ∧ Stks X c'.wa c'.wants) ∧ Bx W1.heap.size (fun k => k = g ∨ k = gb) W1 X) := fun X hX => by
              have hx := HX4.out.trans (hX.mono hsz4 fun k _ h => h)
              exact ⟨⟨Stks.bx HLj.out.g hx (fun x e => by have := HPj.out.fg x e; omega), Stks.bx HLj.out.w hx (fun x e => by have := HPj.out.fw x e; omega)⟩, HXj.out.trans (hx.mono hszj fun k _ h => h)⟩
            have HN4 : Hid (NC 140 QP w4 g gb w4.heap.size (20 + j) c'.cell [] r.2 w4) := NC.start HR4.out HW4.out hcp
            have hg4 : g < w4.heap.size ∧ gb < w4.heap.size := ⟨by omega, by omega⟩
            have hfar4 : W1.heap.size ≤ w4.heap.size := by omega
            have HT0 : Hid (([] ++ (tkS (n - 0) r.2).1, (tkS (n - 0) r.2).2) = stS o') := by show _ = _; rw [HST.out]; simp
            clear HW4 HX4 HR4 HG4 HSj HRj HLj HXj hptr hcp hr HST
            go_loopw [44] (fun i wy => ∃ (q : Nat) (l : List Stk) (o2 : Cat.Left), q ≤ n ∧ i = .int .i64 q ∧ Hid (l.length = q) ∧ Hid ((l ++ (tkS (n - q) o2).1, (tkS (n - q) o2).2) = stS o') ∧ Hid (NC 140 QP w4 g gb w4.heap.size (20 + j) c'.cell l o2 wy)) (fun i _ => n - (intOf i).toNat)
            case atStart => exact ⟨0, [], r.2, by omega, rfl, rfl, HT0, HN4⟩
            case round =>
              obtain ⟨q, l, o2, hq, rfl, HLEN, HTQ, HNC⟩ := hrel
              by_cases hqn : q < n
              · have hltq : (q : Int) < (n : Int) := by omega
                have dq : decide ((q : Int) < (n : Int)) = true := decide_eq_true hltq
                have HTQ' := Lib.hid (tkS_step hqn HTQ.out)
                obtain ⟨r1, h1⟩ : ∃ r, Hid (intS o2 = r) := ⟨_, rfl⟩
                obtain ⟨r2, h2⟩ : ∃ r, Hid (intS r1.2 = r) := ⟨_, rfl⟩
                rw [h1.out, h2.out] at HTQ'
                have HR := Lib.hid HNC.out.rd
                obtain ⟨v, hrow, hv⟩ := HNC.out.row
                have HV := Lib.hid hv
                have HW := Lib.hid hrow
                have HF := Lib.hid HNC.out.fr
                have HLE := Lib.hid HNC.out.le
                have hll : l.length ≤ 8 := by rw [HLEN.out]; omega
                have hp22 : 20 + j < 22 := by omega
                have cb := hrow.cell (i := 20 + j) hp22
                have fb := hrow.frozen (20 + j)
                simp only [if_true] at cb
                have hgbl : gb < wr.heap.size := World.rowIs.lt hrow
                have hgne : g ≠ gb := by omega
                clear hv hrow HNC HTQ
                generalize 20 + j = p at *
                go_wp2
                go_region_law (first
                  | (go_simp; go_at_call 80; (with_reducible refine (CI.out _ _ _ (Rd.drew HR.out)).mono ?_); rintro e w5 ⟨rfl, HR5, HG5⟩; rw [h1.out] at HR5 ⊢; have hsz5 : wr.heap.size ≤ w5.heap.size := HG5.out.size; have cb5 := cell_grown HG5.out hgbl (fun e => hgne (Option.some.inj e)) cb; have HW5 := Lib.hid (row_grown (World.rowIs.drew HW.out) HG5.out (fun e => hgne (Option.some.inj e))); have HV5 := Lib.hid (kept_of (Own.ownsRow_drew HV.out) HG5.out hg4.1))
                  | (go_simp; go_at_call 80; (with_reducible refine (CI.out _ _ _ HR5.out).mono ?_); rintro e w6 ⟨rfl, HR6, HG6⟩; rw [h2.out] at HR6 ⊢; have cb6 := cell_grown HG6.out (Nat.lt_of_lt_of_le hgbl HG5.out.size) (fun e => hgne (Option.some.inj e)) cb5; have HW6 := Lib.hid (row_grown HW5.out HG6.out (fun e => hgne (Option.some.inj e))); have HV6 := Lib.hid (kept_of HV5.out HG6.out hg4.1); have hvb : v.ownBlock ≠ some gb := (fun e => by have := (HV6.out.lt _ e).1; omega); have hyl6 : gb < w6.heap.size := Nat.lt_of_lt_of_le (Nat.lt_of_lt_of_le hgbl HG5.out.size) HG6.out.size)
                  | (refine step_append_lies _ (by rfl) _ _ _ (by rfl) w4.heap.size 106 i0 _ 2 16 Tryz.underlying39 hi0 hz0 hz1 hz2 rfl (by omega) v l.length _ (by simp [Act.eval]) (HV6.out.alloc _) ⟨w6.heap.size, 0, none⟩ 1 1 [.int .i64 r1.1, .int .i64 r2.1] (by simp [Act.eval]) (by rfl) (World.news_of_block (cs := #[.int .i64 r1.1, .int .i64 r2.1]) (t := 106) (fr := (0, 0)) (heap_alloc_new w6 _)) (by simp [Value.oneCell']) (by omega) (by unfold maxLen; omega) (by omega) (by simp; have := HLE.out; have := hsz5; have := HG6.out.size; omega) (w6.heap.size + 1) (by simp) ?_; intro gg cap9 w7 hown hgr hat hlt; have HO7 := Lib.hid hown; have HG7 := Lib.hid (grw_al _ hgr); have cb7 := cell_grown HG7.out hyl6 hvb cb6; have fb7 := row_grown HW6.out HG7.out hvb; have fb8 := fb7.frozen p; have HW7 := Lib.hid fb7; clear hown hgr hat hlt fb7))
                all_goals try simp only [Exit.inBlock, Exit.then]
                all_goals
                  go_wp2
                  go_roundw
                  case rel => exact ⟨q + 1, l ++ [(r1.1, r2.1)], r2.2, by omega, by go_num, by show _ = _; rw [List.length_append, HLEN.out]; rfl, HTQ', need_end (w := wr.drew) HF.out.drew HLE.out hg4 HG5.out HG6.out HR6.out HV6.out HG7.out HW7.out HO7.out hgne⟩
                  case measure => simp [intOf]; omega
              · have hqe : q = n := by omega
                have n2 : ¬ (q : Int) < (n : Int) := by omega
                have d2 : decide ((q : Int) < (n : Int)) = false := decide_eq_false n2
                have HSO : Hid (stS o' = (l, o2)) := by
                  have h := HTQ.out
                  rw [hqe, Nat.sub_self, tkS, List.append_nil] at h
                  exact h.symm
                obtain ⟨hst, hbx⟩ := HSTK.out _ HNC.out.fr
                obtain ⟨c2, p1, p2, p3, p4⟩ := HPj.out.more hj2 HSO.out HNC.out hfar4 hst
                have P1 := Lib.hid p1
                have P2 := Lib.hid p2
                have P3 := Lib.hid p3
                have P4 := Lib.hid p4
                have P5 := Lib.hid hbx
                clear p1 p2 p3 p4 hbx hst hqe HTQ HNC HSO HSTK
                go_wp2
                go_roundw
                case rel => exact ⟨j + 1, c2, o2, by omega, by go_num, P1, P2, P3, P4, P5⟩
                case measure => simp [intOf]; omega
          · have hj2e : j = 2 := by omega
            have nj : ¬ (j : Int) < 2 := by omega
            have dj : decide ((j : Int) < 2) = false := decide_eq_false nj
            have HRD : Hid (rdC s.data.toList = (⟨u.1, f, (stS o).1, none, 0, (stS (stS o).2).1, none, 0⟩, o')) := by
              show _ = _
              have hL : o' = (stS (stS o).2).2 := by have h := HPj.out.left; rw [hj2e] at h; exact h
              unfold rdC
              rw [hu.out]
              dsimp only
              rw [hR.out, if_pos h14, hL]
            have HEQ : Hid (Eqv c' ⟨u.1, f, (stS o).1, none, 0, (stS (stS o).2).1, none, 0⟩) := by
              have h := HPj.out
              rw [hj2e] at h
              exact ⟨h.kind, h.num, h.gives, h.wants⟩
            have HSX := HSj
            have HRX := HRj
            have HLX := HLj
            have HZX : Hid (wr.heap[w.heap.size]? = some (.cells zeroC.val 41 (0, 0))) := (HXj.out.block _ hA1 (by omega)).trans HZ1.out
            have HWX : Hid (Below w.heap.size w wr) := by
              have hx := HXj.out
              exact HW1.out.trans ⟨hx.os, hx.tape, hx.output, hx.size, fun j hj => hx.block j (by omega) (by omega)⟩
            have HFG : Hid (∀ x, c'.ga = some x → w.heap.size < x.block) := fun x hx => by have := HPj.out.fg x hx; omega
            have HFW : Hid (∀ x, c'.wa = some x → w.heap.size < x.block) := fun x hx => by have := HPj.out.fw x hx; omega
            clear HSj HRj HLj HXj HPj
            have hDm : Hid (∀ d, doneS o' = d → (d = true ∧ k ≠ 0 → TV = (⟨u.1, f, (stS o).1, none, 0, (stS (stS o).2).1, none, 0⟩, 0)) ∧ (¬ (d = true ∧ k ≠ 0) → TV = (zeroC, 2))) := fun d hd => by
              have hne : fi u.1 ≠ [] ↔ k ≠ 0 := by rw [← HFI.out]; simp
              refine ⟨fun q => ?_, fun q => ?_⟩
              · rw [← hTV.out]; unfold takeV; rw [HRD.out, hu.out]; exact if_pos ⟨hd.trans q.1, hne.2 q.2⟩
              · rw [← hTV.out]; unfold takeV; rw [HRD.out, hu.out]; exact if_neg fun hq => q ⟨hd.symm.trans hq.1, hne.1 hq.2⟩
            have CEX : Hid (Calls Tryz.prog 81 #[.pointer (some ⟨g, 0, none⟩)] wr fun e w' => e = .returned (.bool (doneS o')) ∧ wr = w') := CE.out _ _ _ HRX.out
            obtain ⟨d, hd⟩ : ∃ d, doneS o' = d := ⟨_, rfl⟩
            rw [hd] at CEX
            obtain ⟨hT1, hT2⟩ := hDm.out d hd
            have HT1 := Lib.hid hT1
            have HT2 := Lib.hid hT2
            clear hT1 hT2 hDm hd
            cases d with
            | false =>
              have HTV := Lib.hid (HT2.out (by simp))
              go_wp2_with (first
                | (go_at_call 81; (with_reducible refine CEX.out.mono ?_); rintro e w8 ⟨rfl, rfl⟩)
                | (refine wpList_buildTo rfl 41 _ rfl (some 68) rfl zeroC.val (by as_aux_lemma => kernel_rfl) ?_)
                | (refine store_cmd rfl (.tmp 2) (.tmp 68) rfl rfl w.heap.size zeroC zeroC rfl rfl HZX.out ?_))
              try simp only [Exit.inBlock, Exit.then]
              refine bodyPost_ret (v := .tuple #[.agg zeroC.val, .int .i64 2]) (ret_cmd rfl _ _ w.heap.size zeroC _ rfl rfl (setRow_cmd _ HZX.out)) rfl ⟨zeroC, by rw [HTV.out], by show Eqv _ _; rw [HTV.out]; exact Eqv.refl _, Lies.zero _, ?_, fun x hx => (by rcases hx with ⟨h, -⟩ | ⟨h, -⟩ <;> exact absurd rfl h)⟩
              exact below_setRow HWX.out _ (Nat.le_refl _) _
            | true =>
              by_cases hk0 : k = 0
              · have HTV := Lib.hid (HT2.out (by simp [hk0]))
                have dk : ((k : Int) == 0) = true := beq_iff_eq.2 (by omega)
                have hk0' : (k : Int) = 0 := by omega
                go_wp2_with (first
                  | (go_at_call 81; (with_reducible refine CEX.out.mono ?_); rintro e w8 ⟨rfl, rfl⟩)
                  | (refine wpList_buildTo rfl 41 _ rfl (some 68) rfl zeroC.val (by as_aux_lemma => kernel_rfl) ?_)
                  | (refine store_cmd rfl (.tmp 2) (.tmp 68) rfl rfl w.heap.size zeroC zeroC rfl rfl HZX.out ?_))
                try simp only [Exit.inBlock, Exit.then]
                refine bodyPost_ret (v := .tuple #[.agg zeroC.val, .int .i64 2]) (ret_cmd rfl _ _ w.heap.size zeroC _ rfl rfl (setRow_cmd _ HZX.out)) rfl ⟨zeroC, by rw [HTV.out], by show Eqv _ _; rw [HTV.out]; exact Eqv.refl _, Lies.zero _, ?_, fun x hx => (by rcases hx with ⟨h, -⟩ | ⟨h, -⟩ <;> exact absurd rfl h)⟩
                exact below_setRow HWX.out _ (Nat.le_refl _) _
              · have HTV := Lib.hid (HT1.out ⟨rfl, hk0⟩)
                have hk0' : ¬ (k : Int) = 0 := by omega
                have dk : ((k : Int) == 0) = false := beq_eq_false_iff_ne.2 hk0'
                go_wp2_with (first
                  | (go_at_call 81; (with_reducible refine CEX.out.mono ?_); rintro e w8 ⟨rfl, rfl⟩)
                  | (refine load_cmd rfl (.tmp 5) rfl gb rfl (c') HSX.out ?_)
                  | (refine store_cmd rfl (.tmp 2) (.tmp 69) rfl rfl w.heap.size (c') zeroC rfl rfl HZX.out ?_))
                try simp only [Exit.inBlock, Exit.then]
                refine bodyPost_ret (v := .tuple #[.agg (c').val, .int .i64 0]) (ret_cmd rfl _ _ w.heap.size (c') _ rfl rfl (setRow_cmd _ HZX.out)) rfl ⟨c', by rw [HTV.out], by show Eqv _ _; rw [HTV.out]; exact HEQ.out, ⟨Stks.setRow HLX.out.g (fun x hx => Nat.ne_of_gt (HFG.out x hx)) _, Stks.setRow HLX.out.w (fun x hx => Nat.ne_of_gt (HFW.out x hx)) _⟩, ?_, fun x hx => (by rcases hx with ⟨-, h⟩ | ⟨-, h⟩ <;> first | exact Nat.le_of_lt (HFG.out x h) | exact Nat.le_of_lt (HFW.out x h))⟩
                exact below_setRow HWX.out _ (Nat.le_refl _) _
      · have d14 : (u.1 == 14) = false := beq_eq_false_iff_ne.2 h14
        have hRe := HRe.out
        subst hRe
        have HRD : Hid (rdC s.data.toList = (bare u.1 f, o)) := by show _ = _; unfold rdC; rw [hu.out]; dsimp only; rw [hR.out, if_neg h14]; rfl
        have HSX := HSr
        have HRX := HRr
        have HZX := HZr
        have HWX : Hid (Below w.heap.size w wr) := by
          have hx := HXr.out
          exact HW3.out.trans ⟨hx.os, hx.tape, hx.output, hx.size, fun j hj => hx.block j (by omega) (by omega)⟩
        have HLX : Hid (Lies wr (bare u.1 f)) := ⟨fun i hi => absurd hi (Nat.not_lt_zero _), fun i hi => absurd hi (Nat.not_lt_zero _)⟩
        have HFG : Hid (∀ x, (bare u.1 f).ga = some x → w.heap.size < x.block) := fun x hx => by cases hx
        have HFW : Hid (∀ x, (bare u.1 f).wa = some x → w.heap.size < x.block) := fun x hx => by cases hx
        have HEQ : Hid (Eqv (bare u.1 f) (bare u.1 f)) := Eqv.refl _
        have hDm : Hid (∀ d, doneS o = d → (d = true ∧ k ≠ 0 → TV = (bare u.1 f, 0)) ∧ (¬ (d = true ∧ k ≠ 0) → TV = (zeroC, 2))) := fun d hd => by
          have hne : fi u.1 ≠ [] ↔ k ≠ 0 := by rw [← HFI.out]; simp
          refine ⟨fun q => ?_, fun q => ?_⟩
          · rw [← hTV.out]; unfold takeV; rw [HRD.out, hu.out]; exact if_pos ⟨hd.trans q.1, hne.2 q.2⟩
          · rw [← hTV.out]; unfold takeV; rw [HRD.out, hu.out]; exact if_neg fun hq => q ⟨hd.symm.trans hq.1, hne.1 hq.2⟩
        have CEX : Hid (Calls Tryz.prog 81 #[.pointer (some ⟨g, 0, none⟩)] wr fun e w' => e = .returned (.bool (doneS o)) ∧ wr = w') := CE.out _ _ _ HRX.out
        obtain ⟨d, hd⟩ : ∃ d, doneS o = d := ⟨_, rfl⟩
        rw [hd] at CEX
        obtain ⟨hT1, hT2⟩ := hDm.out d hd
        have HT1 := Lib.hid hT1
        have HT2 := Lib.hid hT2
        clear hT1 hT2 hDm hd
        cases d with
        | false =>
          have HTV := Lib.hid (HT2.out (by simp))
          go_wp2_with (first
            | (go_at_call 81; (with_reducible refine CEX.out.mono ?_); rintro e w8 ⟨rfl, rfl⟩)
            | (refine wpList_buildTo rfl 41 _ rfl (some 68) rfl zeroC.val (by as_aux_lemma => kernel_rfl) ?_)
            | (refine store_cmd rfl (.tmp 2) (.tmp 68) rfl rfl w.heap.size zeroC zeroC rfl rfl HZX.out ?_))
          try simp only [Exit.inBlock, Exit.then]
          refine bodyPost_ret (v := .tuple #[.agg zeroC.val, .int .i64 2]) (ret_cmd rfl _ _ w.heap.size zeroC _ rfl rfl (setRow_cmd _ HZX.out)) rfl ⟨zeroC, by rw [HTV.out], by show Eqv _ _; rw [HTV.out]; exact Eqv.refl _, Lies.zero _, ?_, fun x hx => (by rcases hx with ⟨h, -⟩ | ⟨h, -⟩ <;> exact absurd rfl h)⟩
          exact below_setRow HWX.out _ (Nat.le_refl _) _
        | true =>
          by_cases hk0 : k = 0
          · have HTV := Lib.hid (HT2.out (by simp [hk0]))
            have dk : ((k : Int) == 0) = true := beq_iff_eq.2 (by omega)
            have hk0' : (k : Int) = 0 := by omega
            go_wp2_with (first
              | (go_at_call 81; (with_reducible refine CEX.out.mono ?_); rintro e w8 ⟨rfl, rfl⟩)
              | (refine wpList_buildTo rfl 41 _ rfl (some 68) rfl zeroC.val (by as_aux_lemma => kernel_rfl) ?_)
              | (refine store_cmd rfl (.tmp 2) (.tmp 68) rfl rfl w.heap.size zeroC zeroC rfl rfl HZX.out ?_))
            try simp only [Exit.inBlock, Exit.then]
            refine bodyPost_ret (v := .tuple #[.agg zeroC.val, .int .i64 2]) (ret_cmd rfl _ _ w.heap.size zeroC _ rfl rfl (setRow_cmd _ HZX.out)) rfl ⟨zeroC, by rw [HTV.out], by show Eqv _ _; rw [HTV.out]; exact Eqv.refl _, Lies.zero _, ?_, fun x hx => (by rcases hx with ⟨h, -⟩ | ⟨h, -⟩ <;> exact absurd rfl h)⟩
            exact below_setRow HWX.out _ (Nat.le_refl _) _
          · have HTV := Lib.hid (HT1.out ⟨rfl, hk0⟩)
            have hk0' : ¬ (k : Int) = 0 := by omega
            have dk : ((k : Int) == 0) = false := beq_eq_false_iff_ne.2 hk0'
            go_wp2_with (first
              | (go_at_call 81; (with_reducible refine CEX.out.mono ?_); rintro e w8 ⟨rfl, rfl⟩)
              | (refine load_cmd rfl (.tmp 5) rfl gb rfl (bare u.1 f) HSX.out ?_)
              | (refine store_cmd rfl (.tmp 2) (.tmp 69) rfl rfl w.heap.size (bare u.1 f) zeroC rfl rfl HZX.out ?_))
            try simp only [Exit.inBlock, Exit.then]
            refine bodyPost_ret (v := .tuple #[.agg (bare u.1 f).val, .int .i64 0]) (ret_cmd rfl _ _ w.heap.size (bare u.1 f) _ rfl rfl (setRow_cmd _ HZX.out)) rfl ⟨bare u.1 f, by rw [HTV.out], by show Eqv _ _; rw [HTV.out]; exact HEQ.out, ⟨Stks.setRow HLX.out.g (fun x hx => Nat.ne_of_gt (HFG.out x hx)) _, Stks.setRow HLX.out.w (fun x hx => Nat.ne_of_gt (HFW.out x hx)) _⟩, ?_, fun x hx => (by rcases hx with ⟨-, h⟩ | ⟨-, h⟩ <;> first | exact Nat.le_of_lt (HFG.out x h) | exact Nat.le_of_lt (HFW.out x h))⟩
            exact below_setRow HWX.out _ (Nat.le_refl _) _
end Cmd
end Go.Proofs.YtlhalhilnkneeaaGreatDoor
end
