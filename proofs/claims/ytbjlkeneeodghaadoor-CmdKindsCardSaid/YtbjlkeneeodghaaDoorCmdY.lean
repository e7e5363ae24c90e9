/- A command with another number: the program's answer. -/
import Derived.Test.YtbjlkeneeodghaaDoorCmdX
set_option linter.unusedSimpArgs false
set_option linter.unusedVariables false
namespace Go.Proofs.YtbjlkeneeodghaaDoor
open Go.RowKit Go.Great
namespace Cmd
open Pen (bs)
open In (Strs)
open Rec (below2 below_al below_dN Stk Stks stkVals)
/-- A command with its stacks elsewhere. -/
def CmdIn.at (c : CmdIn) (a1 : Option Addr) (c1 : Nat) (a2 : Option Addr) (c2 : Nat) : CmdIn := { c with ga := a1, gc := c1, wa := a2, wc := c2 }
theorem Stand.at {w : World} {g : Nat} {c : CmdIn} (h : Stand w g c) (a1 : Option Addr) (c1 : Nat) (a2 : Option Addr) (c2 : Nat) :
    Stand ((w.setCell ⟨g, 20, none⟩ (.slice a1 c.gives.length c1)).setCell ⟨g, 21, none⟩ (.slice a2 c.wants.length c2)) g (c.at a1 c1 a2 c2) := by
  refine World.rowIs.congr (World.rowIs.set (World.rowIs.set h 20 _) 21 _) fun i hi => ?_
  unfold CmdIn.cell CmdIn.at
  simp only
  by_cases h0 : i = 21
  · subst h0; rfl
  · rw [if_neg h0]
    by_cases h1 : i = 20
    · subst h1; rfl
    · rw [if_neg h1]
      simp only [if_neg h0, if_neg h1]
theorem num_frozen {w : World} {g : Nat} {c : CmdIn} (h : Stand w g c) (i : Nat) : w.frozen? ⟨g, i, none⟩ = false := World.rowIs.frozen h i
set_option maxRecDepth 100000 in
set_option maxHeartbeats 4000000 in
theorem set_any (c : CmdIn) (s : ByteArray) (n : Int) (w : World) (hl : Lies w c) (hn : c.gives.length ≤ 100 ∧ c.wants.length ≤ 100) : Calls Tryd.prog 18 #[.agg c.val, .string s, .int .i64 n] w (GivesB (setV c s n) (place s).isSome w) := by
  have HL := Lib.hid hl
  have HN := Lib.hid hn
  clear hl hn
  have HST := Lib.hid (stand_new (w := w) rfl c)
  have CF : Hid (∀ g W, Calls Tryd.prog 29 #[.pointer (some ⟨g, 0, none⟩), .string s] W fun e w' => e = .returned (.pointer (at0 g (place s))) ∧ W = w') := fun g W => field_any g s W
  have CK : Hid (∀ (a : Option Addr) (c : Nat) (l : List Stk) (n : Nat), l.length = n → n ≤ 100 → ∀ w, Stks w a l → Calls Tryd.prog 48 #[.slice a n c] w (GivesS l w)) := fun a c l n hn hl w h => clone_any a c l n hn hl w h
  cases hp : place s with
  | some i =>
    obtain ⟨hi, -⟩ := place_lt 19 i hp
    have HV : Hid (setV c s n = c.set i n) := by show _ = _; unfold setV; rw [hp]
    rw [HV.out]
    rw [hp] at CF
    have HS0 := Lib.hid (HST.out.below (below_al (Below.refl _ _) (.cells zeroC.val 24)))
    have hx := HS0.out.num i hi
    have fx := num_frozen HS0.out (1 + i)
    have hv := val_num c i hi
    obtain ⟨W0, hW0⟩ : ∃ W0, Hid (W0 = (w.alloc (.cells c.val 24)).alloc (.cells zeroC.val 24)) := ⟨_, rfl⟩
    clear hp HV
    unfold at0 at CF
    obtain ⟨V, hV⟩ : ∃ V, Hid (c.val = V) := ⟨_, rfl⟩
    rw [hV.out] at hx fx hv ⊢
    go_enter Tryd.func18, Tryd.ntmps18
    go_wp2_with (go_at_call 29; (with_reducible refine (CF.out _ _).mono ?_); rintro e w1 ⟨rfl, rfl⟩)
    rw [← hV.out]
    refine wp_named fun W hW => ?_
    have hW2 : W = (((w.alloc (.cells c.val 24)).alloc (.cells zeroC.val 24)).setCell ⟨w.heap.size, 1 + i, none⟩ (.int .i64 n)) := by rw [hW]; go_simp; rfl
    have HS : Hid (Stand W w.heap.size (c.set i n)) := by rw [hW2]; exact HS0.out.set i hi n
    have HB : Hid (Below w.heap.size w W) := by rw [hW2]; exact (below_al (below_al (Below.refl _ _) _) _).setCell (Nat.le_refl _) _
    have HZ : Hid (W.heap[w.heap.size + 1]? = some (.cells zeroC.val 24 (0, 0))) := by
      rw [hW2]
      exact (Below.heap_setCell _ _ _ _ (by show w.heap.size + 1 ≠ w.heap.size; omega)).trans (heap_alloc2_new w _ _)
    have HLW : Hid (Lies W.drew c) := HL.out.below (below_dN HB.out 1)
    have hgW : w.heap.size < W.drew.heap.size := World.rowIs.lt HS.out
    have fz := num_frozen HS.out
    have hH0 : W.drew.cell? ⟨w.heap.size, 20, none⟩ = some (.slice c.ga c.gives.length c.gc) ∧ W.drew.cell? ⟨w.heap.size, 21, none⟩ = some (.slice c.wa c.wants.length c.wc) := ⟨World.rowIs.cell HS.out (i := 20) (by decide), World.rowIs.cell HS.out (i := 21) (by decide)⟩
    clear hW hW2 hx fx hv
    refine Ord.wp_region_U (fun W' => W'.cell? ⟨w.heap.size, 20, none⟩ = some (.slice c.ga c.gives.length c.gc) ∧ W'.cell? ⟨w.heap.size, 21, none⟩ = some (.slice c.wa c.wants.length c.wc)) [7, 8, 9] (by kernel_rfl) ?_
    have hHeld := hH0
    refine Ord.wpAnyU_take (i := 0) (v := ?_) rfl (by kernel_rfl) (by kernel_rfl) (by kernel_rfl) (by kernel_rfl) (by kernel_rfl) (by kernel_rfl) (by kernel_rfl) (fun _ _ _ h => h) (Or.inl ⟨by rfl, ?_⟩) hHeld ?_
    rotate_left
    · intro w hSw; (try dsimp only at hSw); go_simp; (try with_reducible rfl)
    try simp only [Act.put, List.setIfInBounds_toArray, List.set_cons_zero, List.set_cons_succ]
    refine Ord.wpAnyU_take (i := 1) (v := ?_) rfl (by kernel_rfl) (by kernel_rfl) (by kernel_rfl) (by kernel_rfl) (by kernel_rfl) (by kernel_rfl) (by kernel_rfl) (fun _ _ _ h => h) (Or.inl ⟨by rfl, ?_⟩) hHeld ?_
    rotate_left
    · intro w hSw; (try dsimp only at hSw); go_simp; (try with_reducible rfl)
    try simp only [Act.put, List.setIfInBounds_toArray, List.set_cons_zero, List.set_cons_succ]
    refine Ord.wpAnyU_take (i := 3) (v := ?_) rfl (by kernel_rfl) (by kernel_rfl) (by kernel_rfl) (by kernel_rfl) (by kernel_rfl) (by kernel_rfl) (by kernel_rfl) (fun _ _ _ h => h) (Or.inl ⟨by rfl, ?_⟩) hHeld ?_
    rotate_left
    · intro w hSw; (try dsimp only at hSw); go_simp; (try with_reducible rfl)
    try simp only [Act.put, List.setIfInBounds_toArray, List.set_cons_zero, List.set_cons_succ]
    refine Ord.wpAnyU_take (i := 4) (v := ?_) rfl (by kernel_rfl) (by kernel_rfl) (by kernel_rfl) (by kernel_rfl) (by kernel_rfl) (by kernel_rfl) (by kernel_rfl) (fun _ _ _ h => h) (Or.inl ⟨by rfl, ?_⟩) hHeld ?_
    rotate_left
    · intro w hSw; (try dsimp only at hSw); go_simp; (try with_reducible rfl)
    try simp only [Act.put, List.setIfInBounds_toArray, List.set_cons_zero, List.set_cons_succ]
    refine Ord.wpAnyU_one (i := 2) (by kernel_rfl) rfl (fun K hK => ?_)
    go_simp
    go_wp2_with ((go_at_call 48; (with_reducible refine (CK.out _ _ _ _ rfl HN.out.1 _ HLW.out.g).mono ?_); rintro e w1 ⟨a1, c1, rfl, HK1, HB1, HF1⟩; have hs1 : _ ∧ _ := ⟨(HB1.out.cell (p := ⟨w.heap.size, 20, none⟩) hgW).trans hH0.1, (HB1.out.cell (p := ⟨w.heap.size, 21, none⟩) hgW).trans hH0.2⟩; have HL1 := Lib.hid (Lies.below HLW.out HB1.out); have hg1 : w.heap.size < w1.heap.size := Nat.lt_of_lt_of_le hgW HB1.out.size))
    refine hK.out _ _ (fun _ => hs1) ?_
    clear hK K
    try simp only [Act.put, List.setIfInBounds_toArray, List.set_cons_zero, List.set_cons_succ]
    refine Ord.wpAnyU_one (i := 5) (by kernel_rfl) rfl (fun K hK => ?_)
    go_simp
    go_wp2_with ((go_at_call 48; (with_reducible refine (CK.out _ _ _ _ rfl HN.out.2 _ HL1.out.w).mono ?_); rintro e w2 ⟨a2, c2, rfl, HK2, HB2, HF2⟩; have hs2 : _ ∧ _ := ⟨(HB2.out.cell (p := ⟨w.heap.size, 20, none⟩) hg1).trans hs1.1, (HB2.out.cell (p := ⟨w.heap.size, 21, none⟩) hg1).trans hs1.2⟩; have HK12 := Lib.hid (HK1.out.below HB2.out); have HS2 : Hid (Stand w2 w.heap.size (c.set i n)) := Stand.below (Stand.below (w := W.drew) HS.out HB1.out) HB2.out; have fz20 := num_frozen HS2.out 20; have fz21 := num_frozen HS2.out 21; have k20 := hs2.1; have k21 := hs2.2))
    refine hK.out _ _ (fun _ => hs2) ?_
    clear hK K
    try simp only [Act.put, List.setIfInBounds_toArray, List.set_cons_zero, List.set_cons_succ]
    refine Ord.wpAnyU_one (i := 6) (by kernel_rfl) rfl (fun K hK => ?_)
    go_simp
    refine hK.out _ _ (fun _ => hs2) ?_
    clear hK K
    try simp only [Act.put, List.setIfInBounds_toArray, List.set_cons_zero, List.set_cons_succ]
    refine Ord.wpAnyU_one (i := 7) (by kernel_rfl) rfl (fun K hK => ?_)
    go_simp
    refine hK.out _ _ (fun h => by cases h) ?_
    clear hK K
    try simp only [Act.put, List.setIfInBounds_toArray, List.set_cons_zero, List.set_cons_succ]
    refine Ord.wpAnyU_one (i := 8) (by kernel_rfl) rfl (fun K hK => ?_)
    go_simp
    refine hK.out _ _ (fun h => by cases h) ?_
    clear hK K
    try simp only [Act.put, List.setIfInBounds_toArray, List.set_cons_zero, List.set_cons_succ]
    refine Ord.wpAnyU_one (i := 9) (by kernel_rfl) rfl (fun K hK => ?_)
    go_simp
    refine hK.out _ _ (fun h => by cases h) ?_
    clear hK K
    try simp only [Act.put, List.setIfInBounds_toArray, List.set_cons_zero, List.set_cons_succ]
    refine Ord.wpAnyU_done (by kernel_rfl) ?_ _
    have HS3 : Hid (Stand ((w2.setCell ⟨w.heap.size, 20, none⟩ (.slice a1 c.gives.length c1)).setCell ⟨w.heap.size, 21, none⟩ (.slice a2 c.wants.length c2)) w.heap.size ((c.set i n).at a1 c1 a2 c2)) := HS2.out.at a1 c1 a2 c2
    have HB4 : Hid (Below w.heap.size w w2) := (below_dN HB.out 1).trans ((below2 HB1.out HB2.out).mono (Nat.le_of_lt hgW))
    have HB3 := Lib.hid ((HB4.out.setCell (p := ⟨w.heap.size, 20, none⟩) (Nat.le_refl _) (.slice a1 c.gives.length c1)).setCell (p := ⟨w.heap.size, 21, none⟩) (Nat.le_refl _) (.slice a2 c.wants.length c2))
    have HZ2 : Hid (((w2.setCell ⟨w.heap.size, 20, none⟩ (.slice a1 c.gives.length c1)).setCell ⟨w.heap.size, 21, none⟩ (.slice a2 c.wants.length c2)).heap[w.heap.size + 1]? = some (.cells zeroC.val 24 (0, 0))) := by
      refine (Below.heap_setCell _ _ _ _ (by show w.heap.size + 1 ≠ w.heap.size; omega)).trans ((Below.heap_setCell _ _ _ _ (by show w.heap.size + 1 ≠ w.heap.size; omega)).trans ?_)
      exact ((below2 HB1.out HB2.out).block _ (Array.getElem?_eq_some_iff.1 HZ.out).1).trans HZ.out
    have HL3 : Hid (Lies ((w2.setCell ⟨w.heap.size, 20, none⟩ (.slice a1 c.gives.length c1)).setCell ⟨w.heap.size, 21, none⟩ (.slice a2 c.wants.length c2)) ((c.set i n).at a1 c1 a2 c2)) := by
      have f1 := HF1.out
      have f2 := HF2.out
      have s1 := HB1.out.size
      exact ⟨Stks.setCell (Stks.setCell HK12.out (fun x hx => by have := f1 x hx; show x.block ≠ w.heap.size; omega) _) (fun x hx => by have := f1 x hx; show x.block ≠ w.heap.size; omega) _,
        Stks.setCell (Stks.setCell HK2.out (fun x hx => by have := f2 x hx; show x.block ≠ w.heap.size; omega) _) (fun x hx => by have := f2 x hx; show x.block ≠ w.heap.size; omega) _⟩
    generalize ((w2.setCell ⟨w.heap.size, 20, none⟩ (.slice a1 c.gives.length c1)).setCell ⟨w.heap.size, 21, none⟩ (.slice a2 c.wants.length c2)) = w3 at *
    go_wp2_with (first
      | (refine load_cmd rfl (.tmp 3) rfl w.heap.size rfl ((c.set i n).at a1 c1 a2 c2) HS3.out ?_)
      | (refine store_cmd rfl (.tmp 6) (.tmp 25) rfl rfl (w.heap.size + 1) ((c.set i n).at a1 c1 a2 c2) zeroC rfl rfl HZ2.out ?_))
    try simp only [Exit.inBlock, Exit.then]
    refine bodyPost_ret (v := .tuple #[.agg ((c.set i n).at a1 c1 a2 c2).val, .bool true]) (ret_cmd rfl _ _ (w.heap.size + 1) ((c.set i n).at a1 c1 a2 c2) _ rfl rfl (setRow_cmd _ HZ2.out)) rfl ⟨(c.set i n).at a1 c1 a2 c2, rfl, ⟨rfl, rfl, rfl, rfl⟩, ?_, ?_⟩
    · have f1 := HF1.out
      have f2 := HF2.out
      have s1 := HB1.out.size
      have s0 : w.heap.size + 1 < W.drew.heap.size := (Array.getElem?_eq_some_iff.1 HZ.out).1
      exact ⟨Stks.setRow HL3.out.g (fun x hx => by have := f1 x hx; omega) _, Stks.setRow HL3.out.w (fun x hx => by have := f2 x hx; omega) _⟩
    · exact below_setRow HB3.out _ (by omega) _
  | none =>
    have HV : Hid (setV c s n = zeroC) := by show _ = _; unfold setV; rw [hp]
    rw [HV.out]
    rw [hp] at CF
    clear hp HV
    unfold at0 at CF
    have HZ : Hid (((w.alloc (.cells c.val 24)).alloc (.cells zeroC.val 24)).heap[w.heap.size + 1]? = some (.cells zeroC.val 24 (0, 0))) := heap_alloc2_new w _ _
    generalize c.val = V at *
    go_enter Tryd.func18, Tryd.ntmps18
    go_wp2_with (first
      | (go_at_call 29; (with_reducible refine (CF.out _ _).mono ?_); rintro e w1 ⟨rfl, rfl⟩)
      | (refine wpList_buildTo rfl 24 _ rfl (some 13) rfl zeroC.val (by as_aux_lemma => kernel_rfl) ?_)
      | (refine store_cmd rfl (.tmp 6) (.tmp 13) rfl rfl (w.heap.size + 1) zeroC zeroC rfl rfl HZ.out ?_))
    try simp only [Exit.inBlock, Exit.then]
    have HB2 := Lib.hid (below_al (below_al (Below.refl w.heap.size w) (.cells V 24)) (.cells zeroC.val 24))
    refine bodyPost_ret (v := .tuple #[.agg zeroC.val, .bool false]) (ret_cmd rfl _ _ (w.heap.size + 1) zeroC _ rfl rfl (setRow_cmd _ HZ.out)) rfl ⟨zeroC, rfl, Eqv.refl _, Lies.zero _, ?_⟩
    exact below_setRow HB2.out _ (by omega) _
end Cmd
end Go.Proofs.YtbjlkeneeodghaaDoor
