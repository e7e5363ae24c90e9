/- The law of any command's bytes: the walk. -/
import Derived.Test.YtbjlkeneeodghaaDoorCmdQa
import Derived.Test.YtbjlkeneeodghaaDoorCmdT2
set_option linter.unusedSimpArgs false
set_option linter.unusedVariables false
namespace Go.Proofs.YtbjlkeneeodghaaDoor
open Go.RowKit Go.Great
namespace Cmd
open Pen (bs bs_append uintB intB I64 intS uintS doneS)
open In (Strs)
open Rec (below2 below_al below_dN Stk Stks stkVals stkVals_append stks_of_own)
/-- A load is taken first; the place that it writes is named. -/
theorem take_at {P : Program} {ops : Array Oper} {Q : Exit → Act → World → Prop} {md : Region.Mode} {S : World → Prop} {l : List Nat} {i : Nat} {oi : Oper} {v : Value} {fuel : Nat} {listed : Array Bool} {a : Act} {w : World} (t : Tmp) (hi : ops[i]? = some oi) (ht : oi.dst = some t)
    (hs : Region.noSelect ops = true) (hf : Region.free md ops listed i = true) (hr : (Region.ready md ops listed).contains i = true)
    (hd : l.all (fun j => (Ord.desc md ops i).contains j) = true) (hw : Ord.waits md ops (Ord.among (Ord.desc md ops i)) i = true) (hl : (Ord.desc md ops i).all (fun j => decide (j < listed.size)) = true) (ha : Ord.ahead (Ord.among (Ord.desc md ops i)) listed.size listed = true)
    (hQ : ∀ c a w, Q (.panic c) (a.put oi.dst v) w → Q (.panic c) a w) (hy : YieldsIf P ops S oi v a) (hS : S w)
    (h : Ord.wpAnyU P md ops Q S (Ord.among l) fuel (listed.setIfInBounds i true) (a.put (some t) v) w) : Ord.wpAnyU P md ops Q S (Ord.among l) (fuel + 1) listed a w :=
  Ord.wpAnyU_take hi hs hf hr hd hw hl ha hQ hy hS (by rw [ht]; exact h)
set_option maxRecDepth 100000 in
set_option maxHeartbeats 8000000 in
theorem puts_a (c : CmdIn) (s : ByteArray) (w : World) (ht : Tab w) (hl : Lies w c) (hc0 : c.gives.length ≤ 100 ∧ c.wants.length ≤ 100 → Cok c) (hfew : fewB c = true ∧ ¬ (512 : Int) < (s.size : Int)) : Calls Tryd.prog 3 #[.agg c.val, .string s] w fun e w' => e = .returned (.bool true) ∧ Below w.heap.size w w' := by
  have HT := Lib.hid ht
  have HL := Lib.hid hl
  have HST := Lib.hid (stand_new (w := w) rfl c)
  have CA : Hid (∀ W, Tab W → Calls Tryd.prog 8 #[] W fun e w' => e = .returned (.bool true) ∧ Below W.heap.size W w') := fun W h => awake_any W h
  have CFEW : Hid (∀ W, Calls Tryd.prog 7 #[.agg c.val] W fun e w' => e = .returned (.bool (fewB c)) ∧ Below W.heap.size W w') := fun W => few_any c W
  clear ht hl
  obtain ⟨hf, hlen⟩ := hfew
  have hc := hc0 (fewB_le hf)
  have H100 := Lib.hid (fewB_le hf)
  rw [hf] at CFEW
  have dlen : decide ((512 : Int) < (s.size : Int)) = false := decide_eq_false hlen
  have CP1 : Hid (∀ W, Tab W → Lies W c → Calls Tryd.prog 9 #[.agg c.val] W fun e w' => e = .returned (.tuple #[.string (bs (putV c).1), .int .i64 (putV c).2]) ∧ Below W.heap.size W w') := fun W h hL => put_any c W h hL hc
  have CP2 : Hid (∀ W, Lies W c → Calls Tryd.prog 10 #[.agg c.val] W fun e w' => e = .returned (.tuple #[.string (bs (putV c).1), .int .i64 (putV c).2]) ∧ Below W.heap.size W w') := fun W hL => refPut_any c W hL hc
  have CC1 : Hid (∀ W, Tab W → Calls Tryd.prog 14 #[.agg c.val] W fun e w' => e = .returned (.int .i64 (chkV c)) ∧ Below W.heap.size W w') := fun W h => check_any c W h H100.out
  have CC2 : Hid (∀ W, Calls Tryd.prog 15 #[.agg c.val] W fun e w' => e = .returned (.int .i64 (chkV c)) ∧ Below W.heap.size W w') := fun W => refCheck_any c W H100.out
  have key : ∃ (x : CmdIn) (g : Int), Hid (∀ W, Tab W → Calls Tryd.prog 11 #[.string s] W (GivesT (x, g) W)) ∧ Hid (∀ W, Calls Tryd.prog 12 #[.string s] W (GivesT (x, g) W)) ∧ Hid (x.gives.length ≤ 100 ∧ x.wants.length ≤ 100) := by
    refine ⟨(takeV s.data.toList).1, (takeV s.data.toList).2, fun W hW => take_any s (by omega) W hW, fun W => refTake_any s (by omega) W, ?_⟩
    have := (back_put s).1.few
    exact this
  obtain ⟨x, g, CT1, CT2, HXF⟩ := key
  have CSM : Hid (∀ c1 c2, Eqv c1 x → Eqv c2 x → ∀ W, Lies W c1 → Lies W c2 → Calls Tryd.prog 13 #[.agg c1.val, .agg c2.val] W fun e w' => e = .returned (.bool true) ∧ Below W.heap.size W w') := fun c1 c2 e1 e2 W l1 l2 => sameC_any c1 c2 W (Eqv.trans e1 (Eqv.symm e2)) l1 l2 (by rw [e1.gives, e1.wants]; exact HXF.out)
  generalize bs (putV c).1 = TS at *
  generalize (putV c).2 = PE at *
  generalize chkV c = CV at *
  have qs := beq_yes (rfl : TS = TS)
  have qe : (PE == PE) = true := by simp
  have qc : (CV == CV) = true := by simp
  have qg : (g == g) = true := by simp
  clear hc hc0
  go_enter Tryd.func3, Tryd.ntmps3
  go_upto_region 1 with fail
  apply wp_region_lit
  refine load_cmd rfl (.tmp 2) rfl w.heap.size rfl c HST.out ?_
  go_upto_region 3 with (go_at_call 7; (with_reducible refine (CFEW.out _).mono ?_); rintro e w1 ⟨rfl, hb1⟩; have HS1 := Lib.hid (HST.out.below hb1); have HB1 := Lib.hid (below2 (below_al (Below.refl w.heap.size w) _) hb1); clear hb1)
  apply wp_region_lit
  refine load_cmd rfl (.tmp 2) rfl w.heap.size rfl c HS1.out ?_
  go_upto_region 4 with (go_at_call 9; (with_reducible refine (CP1.out _ (HT.out.below HB1.out) (HL.out.below HB1.out)).mono ?_); rintro e w2 ⟨rfl, hb2⟩; have HS2 := Lib.hid (HS1.out.below hb2); have HB2 := Lib.hid (below2 HB1.out hb2); clear hb2)
  apply wp_region_lit
  refine load_cmd rfl (.tmp 2) rfl w.heap.size rfl c HS2.out ?_
  go_upto_region 5 with (go_at_call 10; (with_reducible refine (CP2.out _ (HL.out.below HB2.out)).mono ?_); rintro e w3 ⟨rfl, hb3⟩; have HS3 := Lib.hid (HS2.out.below hb3); have HB3 := Lib.hid (below2 HB2.out hb3); clear hb3)
  go_upto_region 6 with (first
    | (go_at_call 11; (with_reducible refine (CT1.out _ (HT.out.below HB3.out)).mono ?_); rintro e w4 ⟨cx, rfl, HE4, HL4, HB4⟩)
    | (refine store_cmd rfl (.tmp 9) (.tmp 35) rfl rfl w4.heap.size cx zeroC rfl rfl (heap_alloc_new w4 _) ?_; refine wpl_named fun w5 hw5 => ?_; have HX5 : Hid (Stand w5 w4.heap.size cx) := (by rw [hw5]; exact stand_of_heap (setRow_cmd cx (c0 := zeroC) (heap_alloc_new w4 _))); have HN5 : Hid (Below w4.heap.size w4 w5) := (by rw [hw5]; exact below_setRow (below_al (Below.refl _ _) _) _ (Nat.le_refl _) _); have HB5 := Lib.hid (below2 HB3.out (below2 HB4.out HN5.out)); have HLX5 := Lib.hid (HL4.out.below HN5.out); have HS5 := Lib.hid (HS3.out.below (below2 HB4.out HN5.out)); clear hw5))
  go_upto_region 7 with (first
    | (go_at_call 12; (with_reducible refine (CT2.out _).mono ?_); rintro e w6 ⟨cy, rfl, HE6, HL6, HB6⟩)
    | (refine store_cmd rfl (.tmp 11) (.tmp 40) rfl rfl w6.heap.size cy zeroC rfl rfl (heap_alloc_new w6 _) ?_; refine wpl_named fun w7 hw7 => ?_; have HY7 : Hid (Stand w7 w6.heap.size cy) := (by rw [hw7]; exact stand_of_heap (setRow_cmd cy (c0 := zeroC) (heap_alloc_new w6 _))); have HN7 : Hid (Below w6.heap.size w6 w7) := (by rw [hw7]; exact below_setRow (below_al (Below.refl _ _) _) _ (Nat.le_refl _) _); have HB7 := Lib.hid (below2 HB5.out (below2 HB6.out HN7.out)); have HLY7 := Lib.hid (HL6.out.below HN7.out); have HLX7 := Lib.hid (HLX5.out.below (below2 HB6.out HN7.out)); have HX7 := Lib.hid (HX5.out.below (below2 HB6.out HN7.out)); have HS7 := Lib.hid (HS5.out.below (below2 HB6.out HN7.out)); clear hw7))
  have hH0 : Stand w7.drew w4.heap.size cx ∧ Stand w7.drew w6.heap.size cy ∧ Stand w7.drew w.heap.size c := ⟨World.rowIs.drew HX7.out, World.rowIs.drew HY7.out, World.rowIs.drew HS7.out⟩
  have HLX8 : Hid (Lies w7.drew cx) := HLX7.out.below (below_dN (Below.refl w7.heap.size w7) 1)
  have HLY8 : Hid (Lies w7.drew cy) := HLY7.out.below (below_dN (Below.refl w7.heap.size w7) 1)
  have HD7 : Hid (Below w.heap.size w w7.drew) := below_dN HB7.out 1
  refine Ord.wp_region_U (fun W' => Stand W' w4.heap.size cx ∧ Stand W' w6.heap.size cy ∧ Stand W' w.heap.size c) [] (by kernel_rfl) ?_
  have hHeld := hH0
  refine take_at (i := 0) (v := ?_) 42 rfl rfl (by kernel_rfl) (by kernel_rfl) (by kernel_rfl) (by kernel_rfl) (by kernel_rfl) (by kernel_rfl) (by kernel_rfl) (fun _ _ _ h => h) (Or.inl ⟨by kernel_rfl, ?_⟩) hHeld ?_
  rotate_left
  · intro w hSw; (try dsimp only at hSw); go_simp; (try with_reducible rfl)
  try simp only [Act.put, List.setIfInBounds_toArray, List.set_cons_zero, List.set_cons_succ]
  refine take_at (i := 1) (v := ?_) 43 rfl rfl (by kernel_rfl) (by kernel_rfl) (by kernel_rfl) (by kernel_rfl) (by kernel_rfl) (by kernel_rfl) (by kernel_rfl) (fun _ _ _ h => h) (Or.inl ⟨by kernel_rfl, ?_⟩) hHeld ?_
  rotate_left
  · intro w hSw; (try dsimp only at hSw); go_simp; (try with_reducible rfl)
  try simp only [Act.put, List.setIfInBounds_toArray, List.set_cons_zero, List.set_cons_succ]
  refine take_at (i := 2) (v := ?_) 44 rfl rfl (by kernel_rfl) (by kernel_rfl) (by kernel_rfl) (by kernel_rfl) (by kernel_rfl) (by kernel_rfl) (by kernel_rfl) (fun _ _ _ h => h) (Or.inl ⟨by kernel_rfl, ?_⟩) hHeld ?_
  rotate_left
  · intro w hSw; (try dsimp only at hSw); go_simp; (try with_reducible rfl)
  try simp only [Act.put, List.setIfInBounds_toArray, List.set_cons_zero, List.set_cons_succ]
  refine take_at (i := 3) (v := ?_) 45 rfl rfl (by kernel_rfl) (by kernel_rfl) (by kernel_rfl) (by kernel_rfl) (by kernel_rfl) (by kernel_rfl) (by kernel_rfl) (fun _ _ _ h => h) (Or.inl ⟨by kernel_rfl, ?_⟩) hHeld ?_
  rotate_left
  · intro w hSw; (try dsimp only at hSw); go_simp; (try with_reducible rfl)
  try simp only [Act.put, List.setIfInBounds_toArray, List.set_cons_zero, List.set_cons_succ]
  refine take_at (i := 4) (v := ?_) 46 rfl rfl (by kernel_rfl) (by kernel_rfl) (by kernel_rfl) (by kernel_rfl) (by kernel_rfl) (by kernel_rfl) (by kernel_rfl) (fun _ _ _ h => h) (Or.inl ⟨by kernel_rfl, ?_⟩) hHeld ?_
  rotate_left
  · intro w hSw; (try dsimp only at hSw); go_simp; (try with_reducible rfl)
  try simp only [Act.put, List.setIfInBounds_toArray, List.set_cons_zero, List.set_cons_succ]
  refine take_at (i := 5) (v := ?_) 47 rfl rfl (by kernel_rfl) (by kernel_rfl) (by kernel_rfl) (by kernel_rfl) (by kernel_rfl) (by kernel_rfl) (by kernel_rfl) (fun _ _ _ h => h) (Or.inl ⟨by kernel_rfl, ?_⟩) hHeld ?_
  rotate_left
  · intro w hSw; (try dsimp only at hSw); go_simp; (try with_reducible rfl)
  try simp only [Act.put, List.setIfInBounds_toArray, List.set_cons_zero, List.set_cons_succ]
  refine take_at (i := 6) (v := ?_) 48 rfl rfl (by kernel_rfl) (by kernel_rfl) (by kernel_rfl) (by kernel_rfl) (by kernel_rfl) (by kernel_rfl) (by kernel_rfl) (fun _ _ _ h => h) (Or.inl ⟨by kernel_rfl, ?_⟩) hHeld ?_
  rotate_left
  · intro w hSw; (try dsimp only at hSw); go_simp; (try with_reducible rfl)
  try simp only [Act.put, List.setIfInBounds_toArray, List.set_cons_zero, List.set_cons_succ]
  refine take_at (i := 7) (v := ?_) 49 rfl rfl (by kernel_rfl) (by kernel_rfl) (by kernel_rfl) (by kernel_rfl) (by kernel_rfl) (by kernel_rfl) (by kernel_rfl) (fun _ _ _ h => h) (Or.inl ⟨by kernel_rfl, ?_⟩) hHeld ?_
  rotate_left
  · intro w hSw; (try dsimp only at hSw); go_simp; (try with_reducible rfl)
  try simp only [Act.put, List.setIfInBounds_toArray, List.set_cons_zero, List.set_cons_succ]
  refine take_at (i := 8) (v := ?_) 50 rfl rfl (by kernel_rfl) (by kernel_rfl) (by kernel_rfl) (by kernel_rfl) (by kernel_rfl) (by kernel_rfl) (by kernel_rfl) (fun _ _ _ h => h) (Or.inl ⟨by kernel_rfl, ?_⟩) hHeld ?_
  rotate_left
  · intro w hSw; (try dsimp only at hSw); go_simp; (try with_reducible rfl)
  try simp only [Act.put, List.setIfInBounds_toArray, List.set_cons_zero, List.set_cons_succ]
  refine take_at (i := 9) (v := .agg cx.val) 51 rfl rfl (by kernel_rfl) (by kernel_rfl) (by kernel_rfl) (by kernel_rfl) (by kernel_rfl) (by kernel_rfl) (by kernel_rfl) (fun _ _ _ h => h) (Or.inl ⟨by kernel_rfl, ?_⟩) hHeld ?_
  · exact fun W2 hS2 => run_load_cmd (.tmp 9) rfl rfl hS2.1
  try simp only [Act.put, List.setIfInBounds_toArray, List.set_cons_zero, List.set_cons_succ]
  refine take_at (i := 10) (v := .agg cy.val) 52 rfl rfl (by kernel_rfl) (by kernel_rfl) (by kernel_rfl) (by kernel_rfl) (by kernel_rfl) (by kernel_rfl) (by kernel_rfl) (fun _ _ _ h => h) (Or.inl ⟨by kernel_rfl, ?_⟩) hHeld ?_
  · exact fun W2 hS2 => run_load_cmd (.tmp 11) rfl rfl hS2.2.1
  try simp only [Act.put, List.setIfInBounds_toArray, List.set_cons_zero, List.set_cons_succ]
  refine Ord.wpAnyU_one (i := 11) (by kernel_rfl) rfl (fun K hK => ?_)
  go_simp
  go_wp2_with (go_at_call 13; (with_reducible refine (CSM.out cx cy HE4.out HE6.out _ HLX8.out HLY8.out).mono ?_); rintro e w8 ⟨rfl, hb8⟩; have hs8 : _ ∧ _ ∧ _ := ⟨Stand.below hH0.1 hb8, Stand.below hH0.2.1 hb8, Stand.below hH0.2.2 hb8⟩; have HB8 := Lib.hid (below2 HD7.out hb8))
  refine hK.out _ _ (fun _ => hs8) ?_
  clear hK K
  try simp only [Act.put, List.setIfInBounds_toArray, List.set_cons_zero, List.set_cons_succ]
  have hHeld := hs8
  refine take_at (i := 12) (v := ?_) 54 rfl rfl (by kernel_rfl) (by kernel_rfl) (by kernel_rfl) (by kernel_rfl) (by kernel_rfl) (by kernel_rfl) (by kernel_rfl) (fun _ _ _ h => h) (Or.inl ⟨by kernel_rfl, ?_⟩) hHeld ?_
  rotate_left
  · intro w hSw; (try dsimp only at hSw); go_simp; (try with_reducible rfl)
  try simp only [Act.put, List.setIfInBounds_toArray, List.set_cons_zero, List.set_cons_succ]
  refine take_at (i := 13) (v := ?_) 55 rfl rfl (by kernel_rfl) (by kernel_rfl) (by kernel_rfl) (by kernel_rfl) (by kernel_rfl) (by kernel_rfl) (by kernel_rfl) (fun _ _ _ h => h) (Or.inl ⟨by kernel_rfl, ?_⟩) hHeld ?_
  rotate_left
  · intro w hSw; (try dsimp only at hSw); go_simp; (try with_reducible rfl)
  try simp only [Act.put, List.setIfInBounds_toArray, List.set_cons_zero, List.set_cons_succ]
  refine take_at (i := 14) (v := ?_) 56 rfl rfl (by kernel_rfl) (by kernel_rfl) (by kernel_rfl) (by kernel_rfl) (by kernel_rfl) (by kernel_rfl) (by kernel_rfl) (fun _ _ _ h => h) (Or.inl ⟨by kernel_rfl, ?_⟩) hHeld ?_
  rotate_left
  · intro w hSw; (try dsimp only at hSw); go_simp; (try with_reducible rfl)
  try simp only [Act.put, List.setIfInBounds_toArray, List.set_cons_zero, List.set_cons_succ]
  refine take_at (i := 15) (v := ?_) 57 rfl rfl (by kernel_rfl) (by kernel_rfl) (by kernel_rfl) (by kernel_rfl) (by kernel_rfl) (by kernel_rfl) (by kernel_rfl) (fun _ _ _ h => h) (Or.inl ⟨by kernel_rfl, ?_⟩) hHeld ?_
  rotate_left
  · intro w hSw; (try dsimp only at hSw); go_simp; (try with_reducible rfl)
  try simp only [Act.put, List.setIfInBounds_toArray, List.set_cons_zero, List.set_cons_succ]
  refine take_at (i := 16) (v := ?_) 58 rfl rfl (by kernel_rfl) (by kernel_rfl) (by kernel_rfl) (by kernel_rfl) (by kernel_rfl) (by kernel_rfl) (by kernel_rfl) (fun _ _ _ h => h) (Or.inl ⟨by kernel_rfl, ?_⟩) hHeld ?_
  rotate_left
  · intro w hSw; (try dsimp only at hSw); go_simp; (try with_reducible rfl)
  try simp only [Act.put, List.setIfInBounds_toArray, List.set_cons_zero, List.set_cons_succ]
  refine take_at (i := 17) (v := ?_) 59 rfl rfl (by kernel_rfl) (by kernel_rfl) (by kernel_rfl) (by kernel_rfl) (by kernel_rfl) (by kernel_rfl) (by kernel_rfl) (fun _ _ _ h => h) (Or.inl ⟨by kernel_rfl, ?_⟩) hHeld ?_
  rotate_left
  · intro w hSw; (try dsimp only at hSw); go_simp; (try with_reducible rfl)
  try simp only [Act.put, List.setIfInBounds_toArray, List.set_cons_zero, List.set_cons_succ]
  refine take_at (i := 18) (v := ?_) 60 rfl rfl (by kernel_rfl) (by kernel_rfl) (by kernel_rfl) (by kernel_rfl) (by kernel_rfl) (by kernel_rfl) (by kernel_rfl) (fun _ _ _ h => h) (Or.inl ⟨by kernel_rfl, ?_⟩) hHeld ?_
  rotate_left
  · intro w hSw; (try dsimp only at hSw); go_simp; (try with_reducible rfl)
  try simp only [Act.put, List.setIfInBounds_toArray, List.set_cons_zero, List.set_cons_succ]
  refine take_at (i := 19) (v := .agg c.val) 61 rfl rfl (by kernel_rfl) (by kernel_rfl) (by kernel_rfl) (by kernel_rfl) (by kernel_rfl) (by kernel_rfl) (by kernel_rfl) (fun _ _ _ h => h) (Or.inl ⟨by kernel_rfl, ?_⟩) hHeld ?_
  · exact fun W2 hS2 => run_load_cmd (.tmp 2) rfl rfl hS2.2.2
  try simp only [Act.put, List.setIfInBounds_toArray, List.set_cons_zero, List.set_cons_succ]
  refine take_at (i := 21) (v := .agg c.val) 63 rfl rfl (by kernel_rfl) (by kernel_rfl) (by kernel_rfl) (by kernel_rfl) (by kernel_rfl) (by kernel_rfl) (by kernel_rfl) (fun _ _ _ h => h) (Or.inl ⟨by kernel_rfl, ?_⟩) hHeld ?_
  · exact fun W2 hS2 => run_load_cmd (.tmp 2) rfl rfl hS2.2.2
  try simp only [Act.put, List.setIfInBounds_toArray, List.set_cons_zero, List.set_cons_succ]
  refine Ord.wpAnyU_one (i := 20) (by kernel_rfl) rfl (fun K hK => ?_)
  go_simp
  go_wp2_with (go_at_call 14; (with_reducible refine (CC1.out _ (HT.out.below HB8.out)).mono ?_); rintro e w9 ⟨rfl, hb9⟩; have hs9 : _ ∧ _ ∧ _ := ⟨Stand.below hs8.1 hb9, Stand.below hs8.2.1 hb9, Stand.below hs8.2.2 hb9⟩; have HB9 := Lib.hid (below2 HB8.out hb9))
  refine hK.out _ _ (fun _ => hs9) ?_
  clear hK K
  try simp only [Act.put, List.setIfInBounds_toArray, List.set_cons_zero, List.set_cons_succ]
  refine Ord.wpAnyU_one (i := 22) (by kernel_rfl) rfl (fun K hK => ?_)
  go_simp
  go_wp2_with (go_at_call 15; (with_reducible refine (CC2.out _).mono ?_); rintro e w10 ⟨rfl, hb10⟩; have hs10 : _ ∧ _ ∧ _ := ⟨Stand.below hs9.1 hb10, Stand.below hs9.2.1 hb10, Stand.below hs9.2.2 hb10⟩; have HB10 := Lib.hid (below2 HB9.out hb10))
  refine hK.out _ _ (fun _ => hs10) ?_
  clear hK K
  try simp only [Act.put, List.setIfInBounds_toArray, List.set_cons_zero, List.set_cons_succ]
  have hHeld := hs10
  refine take_at (i := 23) (v := ?_) 65 rfl rfl (by kernel_rfl) (by kernel_rfl) (by kernel_rfl) (by kernel_rfl) (by kernel_rfl) (by kernel_rfl) (by kernel_rfl) (fun _ _ _ h => h) (Or.inl ⟨by kernel_rfl, ?_⟩) hHeld ?_
  rotate_left
  · intro w hSw; (try dsimp only at hSw); go_simp; (try with_reducible rfl)
  try simp only [Act.put, List.setIfInBounds_toArray, List.set_cons_zero, List.set_cons_succ]
  refine take_at (i := 24) (v := ?_) 66 rfl rfl (by kernel_rfl) (by kernel_rfl) (by kernel_rfl) (by kernel_rfl) (by kernel_rfl) (by kernel_rfl) (by kernel_rfl) (fun _ _ _ h => h) (Or.inl ⟨by kernel_rfl, ?_⟩) hHeld ?_
  rotate_left
  · intro w hSw; (try dsimp only at hSw); go_simp; (try with_reducible rfl)
  try simp only [Act.put, List.setIfInBounds_toArray, List.set_cons_zero, List.set_cons_succ]
  refine take_at (i := 25) (v := ?_) 67 rfl rfl (by kernel_rfl) (by kernel_rfl) (by kernel_rfl) (by kernel_rfl) (by kernel_rfl) (by kernel_rfl) (by kernel_rfl) (fun _ _ _ h => h) (Or.inl ⟨by kernel_rfl, ?_⟩) hHeld ?_
  rotate_left
  · intro w hSw; (try dsimp only at hSw); go_simp; (try with_reducible rfl)
  try simp only [Act.put, List.setIfInBounds_toArray, List.set_cons_zero, List.set_cons_succ]
  refine Ord.wpAnyU_one (i := 26) (by kernel_rfl) rfl (fun K hK => ?_)
  go_simp
  go_wp2_with (go_at_call 8; (with_reducible refine (CA.out _ (HT.out.below HB10.out)).mono ?_); rintro e w11 ⟨rfl, hb11⟩; have hs11 : _ ∧ _ ∧ _ := ⟨Stand.below hs10.1 hb11, Stand.below hs10.2.1 hb11, Stand.below hs10.2.2 hb11⟩; have HB11 := Lib.hid (below2 HB10.out hb11))
  refine hK.out _ _ (fun _ => hs11) ?_
  clear hK K
  try simp only [Act.put, List.setIfInBounds_toArray, List.set_cons_zero, List.set_cons_succ]
  have hHeld := hs11
  refine take_at (i := 27) (v := ?_) 69 rfl rfl (by kernel_rfl) (by kernel_rfl) (by kernel_rfl) (by kernel_rfl) (by kernel_rfl) (by kernel_rfl) (by kernel_rfl) (fun _ _ _ h => h) (Or.inl ⟨by kernel_rfl, ?_⟩) hHeld ?_
  rotate_left
  · intro w hSw; (try dsimp only at hSw); go_simp; (try with_reducible rfl)
  try simp only [Act.put, List.setIfInBounds_toArray, List.set_cons_zero, List.set_cons_succ]
  refine Ord.wpAnyU_one (i := 28) (by kernel_rfl) rfl (fun K hK => ?_)
  go_simp
  refine hK.out _ _ (fun _ => hs11) ?_
  clear hK K
  try simp only [Act.put, List.setIfInBounds_toArray, List.set_cons_zero, List.set_cons_succ]
  refine Ord.wpAnyU_done (by kernel_rfl) ?_ _
  go_wp2
  go_ret
  exact ⟨rfl, HB11.out⟩
set_option maxRecDepth 100000 in
set_option maxHeartbeats 8000000 in
theorem puts_b (c : CmdIn) (s : ByteArray) (w : World) (ht : Tab w) (hl : Lies w c) (hc0 : c.gives.length ≤ 100 ∧ c.wants.length ≤ 100 → Cok c) (hfew : ¬ (fewB c = true ∧ ¬ (512 : Int) < (s.size : Int))) : Calls Tryd.prog 3 #[.agg c.val, .string s] w fun e w' => e = .returned (.bool true) ∧ Below w.heap.size w w' := by
  have HT := Lib.hid ht
  have HL := Lib.hid hl
  have HST := Lib.hid (stand_new (w := w) rfl c)
  have CA : Hid (∀ W, Tab W → Calls Tryd.prog 8 #[] W fun e w' => e = .returned (.bool true) ∧ Below W.heap.size W w') := fun W h => awake_any W h
  have CFEW : Hid (∀ W, Calls Tryd.prog 7 #[.agg c.val] W fun e w' => e = .returned (.bool (fewB c)) ∧ Below W.heap.size W w') := fun W => few_any c W
  clear ht hl
  have hor : fewB c = false ∨ (fewB c = true ∧ (512 : Int) < (s.size : Int)) := by
    cases h : fewB c with
    | false => exact Or.inl rfl
    | true => exact Or.inr ⟨rfl, Decidable.byContradiction fun hn => hfew ⟨h, hn⟩⟩
  clear hfew
  rcases hor with hf | ⟨hf, hlen⟩
  · rw [hf] at CFEW
    go_enter Tryd.func3, Tryd.ntmps3
    go_upto_region 1 with fail
    apply wp_region_lit
    refine load_cmd rfl (.tmp 2) rfl w.heap.size rfl c HST.out ?_
    go_wp2_with (first
      | (go_at_call 7; (with_reducible refine (CFEW.out _).mono ?_); rintro e w1 ⟨rfl, hb1⟩; have HB1 := Lib.hid (below2 (below_al (Below.refl w.heap.size w) _) hb1); clear hb1)
      | (go_at_call 8; (with_reducible refine (CA.out _ (HT.out.below HB1.out)).mono ?_); rintro e w2 ⟨rfl, hb2⟩; have HB2 := Lib.hid (below2 HB1.out hb2); clear hb2))
    all_goals go_ret
    all_goals exact ⟨rfl, HB2.out⟩
  · rw [hf] at CFEW
    have dlen : decide ((512 : Int) < (s.size : Int)) = true := decide_eq_true hlen
    go_enter Tryd.func3, Tryd.ntmps3
    go_upto_region 1 with fail
    apply wp_region_lit
    refine load_cmd rfl (.tmp 2) rfl w.heap.size rfl c HST.out ?_
    go_wp2_with (first
      | (go_at_call 7; (with_reducible refine (CFEW.out _).mono ?_); rintro e w1 ⟨rfl, hb1⟩; have HB1 := Lib.hid (below2 (below_al (Below.refl w.heap.size w) _) hb1); clear hb1)
      | (go_at_call 8; (with_reducible refine (CA.out _ (HT.out.below HB1.out)).mono ?_); rintro e w2 ⟨rfl, hb2⟩; have HB2 := Lib.hid (below2 HB1.out hb2); clear hb2))
    all_goals go_ret
    all_goals exact ⟨rfl, HB2.out⟩
theorem puts_law (c : CmdIn) (s : ByteArray) (w : World) (ht : Tab w) (hl : Lies w c) (hc0 : c.gives.length ≤ 100 ∧ c.wants.length ≤ 100 → Cok c) : Calls Tryd.prog 3 #[.agg c.val, .string s] w fun e w' => e = .returned (.bool true) ∧ Below w.heap.size w w' := by
  by_cases hfew : fewB c = true ∧ ¬ (512 : Int) < (s.size : Int)
  · exact puts_a c s w ht hl hc0 hfew
  · exact puts_b c s w ht hl hc0 hfew
end Cmd
end Go.Proofs.YtbjlkeneeodghaaDoor
