/- The law of replies there and back: the walk. -/
import Derived.Test.YtmaddebfoefckaaDoorRepB
set_option linter.unusedSimpArgs false
set_option linter.unusedVariables false
namespace Go.Proofs.YtmaddebfoefckaaDoor
open Go.RowKit Go.Great Go.Sort
namespace Rep
open Pen (bs bs_append uintB intB I64 intS uintS doneS)
open Go.Lib (decDigits itoa)
set_option maxRecDepth 100000 in
set_option maxHeartbeats 8000000 in
theorem back_short (a b : RepIn) (ha : Rok a) (hb : Rok b) (s : ByteArray) (w : World) (ht : Tab w) (hlen : ¬ (128 : Int) < (s.size : Int)) : Calls Tryd.prog 4 #[.agg a.val, .agg b.val, .string s] w fun e w' => e = .returned (.bool true) ∧ Below w.heap.size w w' := by
  have HT := Lib.hid ht
  have CA : Hid (∀ W, Tab W → Calls Tryd.prog 5 #[] W fun e w' => e = .returned (.bool true) ∧ Below W.heap.size W w') := fun W h => awake_any W h
  have dlen : decide ((128 : Int) < (s.size : Int)) = false := decide_eq_false hlen
  have CPA : Hid (∀ W, Calls Tryd.prog 6 #[.agg a.val] W fun x w' => x = .returned (.tuple #[.string (bs (putV a).1), .int .i64 (putV a).2]) ∧ Below W.heap.size W w') := fun W => put_any a ha W
  have CPB : Hid (∀ W, Calls Tryd.prog 6 #[.agg b.val] W fun x w' => x = .returned (.tuple #[.string (bs (putV b).1), .int .i64 (putV b).2]) ∧ Below W.heap.size W w') := fun W => put_any b hb W
  have CXA : Hid (∀ W, Tab W → Calls Tryd.prog 10 #[.agg a.val] W fun x w' => x = .returned (.string (bs (textV a))) ∧ Below W.heap.size W w') := fun W h => text_any a ha W h
  have CXB : Hid (∀ W, Tab W → Calls Tryd.prog 10 #[.agg b.val] W fun x w' => x = .returned (.string (bs (textV b))) ∧ Below W.heap.size W w') := fun W h => text_any b hb W h
  have key : ∃ (x : RepIn) (g : Int) (TS : ByteArray) (H : Int), Hid (∀ W, Calls Tryd.prog 8 #[.string s] W fun e w' => e = .returned (.tuple #[.agg x.val, .int .i64 g]) ∧ Below W.heap.size W w') ∧ Hid (∀ W, Calls Tryd.prog 6 #[.agg x.val] W fun e w' => e = .returned (.tuple #[.string TS, .int .i64 H]) ∧ Below W.heap.size W w') ∧ ((g = 0 ∧ H = 0 ∧ TS = s) ∨ g = 2) := by
    rcases takeV_err s.data.toList with h | ⟨h, h'⟩
    · obtain ⟨h1, h2, h3⟩ := put_take _ h
      refine ⟨(takeV s.data.toList).1, (takeV s.data.toList).2, bs (putV (takeV s.data.toList).1).1, (putV (takeV s.data.toList).1).2, fun W => take_any s (by omega) W, fun W => put_any _ h1 W, Or.inl ⟨h, ?_, ?_⟩⟩
      · rw [may_put h2]
      · rw [may_put h2, h3]
        rfl
    · refine ⟨(takeV s.data.toList).1, (takeV s.data.toList).2, bs (putV (takeV s.data.toList).1).1, (putV (takeV s.data.toList).1).2, fun W => take_any s (by omega) W, fun W => put_any _ (by rw [h']; exact rok_few _ (by decide)) W, Or.inr h⟩
  obtain ⟨x, g, TS, H, CT, CPX, hk⟩ := key
  have CTA : Hid (May a → ∀ W, Calls Tryd.prog 8 #[.string (bs (putV a).1)] W fun e w' => e = .returned (.tuple #[.agg a.val, .int .i64 0]) ∧ Below W.heap.size W w') := fun hm W => by
    rw [may_put hm]
    have h := take_any (bs (repB a)) (rep_size a) W
    rw [show (bs (repB a)).data.toList = repB a from rfl, take_put a ha hm] at h
    exact h
  have hDP : May a → May b → ((bs (putV a).1).toList == (bs (putV b).1).toList) = decide (a = b) := fun ma mb => beq_of ⟨fun e => by rw [may_put ma, may_put mb] at e; exact repB_inj ha hb ma mb (bs_inj e), fun e => by rw [e]⟩
  have hDT : May a → May b → ((bs (textV a)).toList == (bs (textV b)).toList) = decide (a = b) := fun ma mb => beq_of ⟨fun e => text_inj ma mb (bs_inj e), fun e => by rw [e]⟩
  have qs := beq_yes (rfl : s = s)
  have qn : (s.toList != s.toList) = false := by simp
  have pa := putV_01 a
  have pb := putV_01 b
  obtain ⟨DD, hDD⟩ : ∃ D, Hid (decide (a = b) = D) := ⟨_, rfl⟩
  rw [hDD.out] at hDP hDT
  have qd : (DD == DD) = true := by simp
  generalize bs (putV a).1 = PA at *
  generalize bs (putV b).1 = PB at *
  generalize (putV a).2 = EA at *
  generalize (putV b).2 = EB at *
  generalize bs (textV a) = XA at *
  generalize bs (textV b) = XB at *
  clear ht hlen
  rcases hk with ⟨rfl, rfl, rfl⟩ | rfl
  · rcases pa with ⟨rfl, ma⟩ | ⟨rfl, ma⟩
    · replace CTA := Lib.hid (CTA.out ma)
      rcases pb with ⟨rfl, mb⟩ | ⟨rfl, mb⟩
      · have qp := hDP ma mb
        have qt := hDT ma mb
        clear hDP hDT ma mb
        go_enter Tryd.func4, Tryd.ntmps4
        go_upto_region 3 with fail
        refine wp_named fun W0 hW0 => ?_
        have HA0 : Hid (Rp W0 w.heap.size a) := by rw [hW0]; exact (rp_new (w := w) rfl a).below (below_al (Below.refl _ _) _)
        have HB0 : Hid (Rp W0 (w.heap.size + 1) b) := by rw [hW0]; exact rp_new (by simp) b
        have HW0 : Hid (Below w.heap.size w W0) := by rw [hW0]; exact below_al (below_al (Below.refl _ _) _) _
        clear hW0
        apply wp_region_lit
        refine load_rep rfl (.tmp 3) rfl w.heap.size rfl a HA0.out ?_
        go_upto_region 4 with (go_at_call 6; (with_reducible refine (CPA.out _).mono ?_); rintro e w1 ⟨rfl, hb1⟩; have HA1 := Lib.hid (HA0.out.below hb1); have HB1 := Lib.hid (HB0.out.below hb1); have HW1 := Lib.hid (below2 HW0.out hb1); clear hb1)
        apply wp_region_lit
        refine load_rep rfl (.tmp 4) rfl (w.heap.size + 1) rfl b HB1.out ?_
        go_upto_region 5 with (go_at_call 6; (with_reducible refine (CPB.out _).mono ?_); rintro e w2 ⟨rfl, hb2⟩; have HA2 := Lib.hid (HA1.out.below hb2); have HB2 := Lib.hid (HB1.out.below hb2); have HW2 := Lib.hid (below2 HW1.out hb2); clear hb2)
        go_upto_region 6 with (first
          | (go_at_call 8; (with_reducible refine (CT.out _).mono ?_); rintro e w3 ⟨rfl, hb3⟩)
          | (refine store_rep rfl (.tmp 11) (.tmp 34) rfl rfl w3.heap.size x (ofE 0) rfl rfl (heap_alloc_new w3 _) ?_; refine wpl_named fun w4 hw4 => ?_; have HX4 : Hid (Rp w4 w3.heap.size x) := (by rw [hw4]; exact rp_of_heap (setRow_rep x (c0 := ofE 0) (heap_alloc_new w3 _))); have HN4 : Hid (Below w3.heap.size w3 w4) := (by rw [hw4]; exact below_setRow (below_al (Below.refl _ _) _) _ (Nat.le_refl _) _); have HN24 := Lib.hid (below2 hb3 HN4.out); have HW4 := Lib.hid (below2 HW2.out HN24.out); have HA4 := Lib.hid (HA2.out.below HN24.out); have HB4 := Lib.hid (HB2.out.below HN24.out); clear hw4 hb3))
        apply wp_region_lit
        refine load_rep rfl (.tmp 11) rfl w3.heap.size rfl x HX4.out ?_
        go_upto_region 9 with (go_at_call 6; (with_reducible refine (CPX.out _).mono ?_); rintro e w5 ⟨rfl, hb5⟩; have HA5 := Lib.hid (HA4.out.below hb5); have HB5 := Lib.hid (HB4.out.below hb5); have HW5 := Lib.hid (below2 HW4.out hb5); clear hb5)
        go_upto_region 11 with (first
          | (go_at_call 8; (with_reducible refine (CTA.out _).mono ?_); rintro e w6 ⟨rfl, hb6⟩)
          | (refine store_rep rfl (.tmp 15) (.tmp 57) rfl rfl w6.heap.size a (ofE 0) rfl rfl (heap_alloc_new w6 _) ?_; refine wpl_named fun w7 hw7 => ?_; have HY7 : Hid (Rp w7 w6.heap.size a) := (by rw [hw7]; exact rp_of_heap (setRow_rep a (c0 := ofE 0) (heap_alloc_new w6 _))); have HN7 : Hid (Below w6.heap.size w6 w7) := (by rw [hw7]; exact below_setRow (below_al (Below.refl _ _) _) _ (Nat.le_refl _) _); have HN57 := Lib.hid (below2 hb6 HN7.out); have HW7 := Lib.hid (below2 HW5.out HN57.out); have HA7 := Lib.hid (HA5.out.below HN57.out); have HB7 := Lib.hid (HB5.out.below HN57.out); clear hw7 hb6))
        apply wp_region_lit
        iterate 3 (refine wpList_step (fun K hK => ?_); go_simp; refine hK _ _ ?_; clear hK K)
        refine wpList_unguard rfl ?_
        refine load_rep rfl (.tmp 15) rfl w6.heap.size rfl a HY7.out ?_
        refine wpList_unguard rfl ?_
        refine load_rep rfl (.tmp 3) rfl w.heap.size rfl a HA7.out ?_
        refine wpList_unguard rfl ?_
        refine wpList_run rfl (run_other (a := a) (.tmp 62) (.tmp 63) rfl rfl rfl) ?_
        go_upto_region 15 with fail
        have hH0 : Rp w7.drew w.heap.size a ∧ Rp w7.drew (w.heap.size + 1) b := ⟨HA7.out.drew, HB7.out.drew⟩
        have HD7 : Hid (Below w.heap.size w w7.drew) := below_dN HW7.out 1
        refine Ord.wp_region_U (fun W' => Rp W' w.heap.size a ∧ Rp W' (w.heap.size + 1) b) [] (by kernel_rfl) ?_
        have hHeld := hH0
        refine take_at (i := 0) (v := ?_) 73 rfl rfl (by kernel_rfl) (by kernel_rfl) (by kernel_rfl) (by kernel_rfl) (by kernel_rfl) (by kernel_rfl) (by kernel_rfl) (fun _ _ _ h => h) (Or.inl ⟨by kernel_rfl, ?_⟩) hHeld ?_
        rotate_left
        · intro w hSw; (try dsimp only at hSw); skip; go_simp; (try with_reducible rfl)
        try simp only [Act.put, List.setIfInBounds_toArray, List.set_cons_zero, List.set_cons_succ]
        refine take_at (i := 1) (v := ?_) 74 rfl rfl (by kernel_rfl) (by kernel_rfl) (by kernel_rfl) (by kernel_rfl) (by kernel_rfl) (by kernel_rfl) (by kernel_rfl) (fun _ _ _ h => h) (Or.inl ⟨by kernel_rfl, ?_⟩) hHeld ?_
        rotate_left
        · intro w hSw; (try dsimp only at hSw); skip; go_simp; (try with_reducible rfl)
        try simp only [Act.put, List.setIfInBounds_toArray, List.set_cons_zero, List.set_cons_succ]
        refine take_at (i := 2) (v := ?_) 75 rfl rfl (by kernel_rfl) (by kernel_rfl) (by kernel_rfl) (by kernel_rfl) (by kernel_rfl) (by kernel_rfl) (by kernel_rfl) (fun _ _ _ h => h) (Or.inl ⟨by kernel_rfl, ?_⟩) hHeld ?_
        rotate_left
        · intro w hSw; (try dsimp only at hSw); skip; go_simp; (try with_reducible rfl)
        try simp only [Act.put, List.setIfInBounds_toArray, List.set_cons_zero, List.set_cons_succ]
        refine take_at (i := 3) (v := .agg a.val) 76 rfl rfl (by kernel_rfl) (by kernel_rfl) (by kernel_rfl) (by kernel_rfl) (by kernel_rfl) (by kernel_rfl) (by kernel_rfl) (fun _ _ _ h => h) (Or.inl ⟨by kernel_rfl, ?_⟩) hHeld ?_
        · exact fun W2 hS2 => run_load_rep (.tmp 3) rfl rfl hS2.1
        try simp only [Act.put, List.setIfInBounds_toArray, List.set_cons_zero, List.set_cons_succ]
        refine take_at (i := 4) (v := .agg b.val) 77 rfl rfl (by kernel_rfl) (by kernel_rfl) (by kernel_rfl) (by kernel_rfl) (by kernel_rfl) (by kernel_rfl) (by kernel_rfl) (fun _ _ _ h => h) (Or.inl ⟨by kernel_rfl, ?_⟩) hHeld ?_
        · exact fun W2 hS2 => run_load_rep (.tmp 4) rfl rfl hS2.2
        try simp only [Act.put, List.setIfInBounds_toArray, List.set_cons_zero, List.set_cons_succ]
        refine take_at (i := 5) (v := .bool (decide (a = b))) 78 rfl rfl (by kernel_rfl) (by kernel_rfl) (by kernel_rfl) (by kernel_rfl) (by kernel_rfl) (by kernel_rfl) (by kernel_rfl) (fun _ _ _ h => h) (Or.inl ⟨by kernel_rfl, ?_⟩) hHeld ?_
        · exact fun W2 hS2 => run_eq (.tmp 76) (.tmp 77) rfl rfl rfl
        try simp only [Act.put, List.setIfInBounds_toArray, List.set_cons_zero, List.set_cons_succ]
        rw [hDD.out]
        refine take_at (i := 6) (v := ?_) 79 rfl rfl (by kernel_rfl) (by kernel_rfl) (by kernel_rfl) (by kernel_rfl) (by kernel_rfl) (by kernel_rfl) (by kernel_rfl) (fun _ _ _ h => h) (Or.inl ⟨by kernel_rfl, ?_⟩) hHeld ?_
        rotate_left
        · intro w hSw; (try dsimp only at hSw); skip; go_simp; (try with_reducible rfl)
        try simp only [Act.put, List.setIfInBounds_toArray, List.set_cons_zero, List.set_cons_succ]
        refine take_at (i := 7) (v := ?_) 80 rfl rfl (by kernel_rfl) (by kernel_rfl) (by kernel_rfl) (by kernel_rfl) (by kernel_rfl) (by kernel_rfl) (by kernel_rfl) (fun _ _ _ h => h) (Or.inl ⟨by kernel_rfl, ?_⟩) hHeld ?_
        rotate_left
        · intro w hSw; (try dsimp only at hSw); skip; go_simp; (try with_reducible rfl)
        try simp only [Act.put, List.setIfInBounds_toArray, List.set_cons_zero, List.set_cons_succ]
        refine take_at (i := 8) (v := .agg a.val) 81 rfl rfl (by kernel_rfl) (by kernel_rfl) (by kernel_rfl) (by kernel_rfl) (by kernel_rfl) (by kernel_rfl) (by kernel_rfl) (fun _ _ _ h => h) (Or.inl ⟨by kernel_rfl, ?_⟩) hHeld ?_
        · exact fun W2 hS2 => run_load_rep (.tmp 3) rfl rfl hS2.1
        try simp only [Act.put, List.setIfInBounds_toArray, List.set_cons_zero, List.set_cons_succ]
        refine take_at (i := 10) (v := .agg b.val) 83 rfl rfl (by kernel_rfl) (by kernel_rfl) (by kernel_rfl) (by kernel_rfl) (by kernel_rfl) (by kernel_rfl) (by kernel_rfl) (fun _ _ _ h => h) (Or.inl ⟨by kernel_rfl, ?_⟩) hHeld ?_
        · exact fun W2 hS2 => run_load_rep (.tmp 4) rfl rfl hS2.2
        try simp only [Act.put, List.setIfInBounds_toArray, List.set_cons_zero, List.set_cons_succ]
        refine take_at (i := 13) (v := .agg a.val) 86 rfl rfl (by kernel_rfl) (by kernel_rfl) (by kernel_rfl) (by kernel_rfl) (by kernel_rfl) (by kernel_rfl) (by kernel_rfl) (fun _ _ _ h => h) (Or.inl ⟨by kernel_rfl, ?_⟩) hHeld ?_
        · exact fun W2 hS2 => run_load_rep (.tmp 3) rfl rfl hS2.1
        try simp only [Act.put, List.setIfInBounds_toArray, List.set_cons_zero, List.set_cons_succ]
        refine take_at (i := 14) (v := .agg b.val) 87 rfl rfl (by kernel_rfl) (by kernel_rfl) (by kernel_rfl) (by kernel_rfl) (by kernel_rfl) (by kernel_rfl) (by kernel_rfl) (fun _ _ _ h => h) (Or.inl ⟨by kernel_rfl, ?_⟩) hHeld ?_
        · exact fun W2 hS2 => run_load_rep (.tmp 4) rfl rfl hS2.2
        try simp only [Act.put, List.setIfInBounds_toArray, List.set_cons_zero, List.set_cons_succ]
        refine take_at (i := 15) (v := .bool (decide (a = b))) 88 rfl rfl (by kernel_rfl) (by kernel_rfl) (by kernel_rfl) (by kernel_rfl) (by kernel_rfl) (by kernel_rfl) (by kernel_rfl) (fun _ _ _ h => h) (Or.inl ⟨by kernel_rfl, ?_⟩) hHeld ?_
        · exact fun W2 hS2 => run_eq (.tmp 86) (.tmp 87) rfl rfl rfl
        try simp only [Act.put, List.setIfInBounds_toArray, List.set_cons_zero, List.set_cons_succ]
        rw [hDD.out]
        refine Ord.wpAnyU_one (i := 9) (by kernel_rfl) rfl (fun K hK => ?_)
        go_simp
        go_wp2_with (go_at_call 10; (with_reducible refine (CXA.out _ (HT.out.below HD7.out)).mono ?_); rintro e w8 ⟨rfl, hb8⟩; have hs8 : _ ∧ _ := ⟨hH0.1.below hb8, hH0.2.below hb8⟩; have HB8 := Lib.hid (below2 HD7.out hb8))
        refine hK.out _ _ (fun _ => hs8) ?_
        clear hK K
        try simp only [Act.put, List.setIfInBounds_toArray, List.set_cons_zero, List.set_cons_succ]
        refine Ord.wpAnyU_one (i := 11) (by kernel_rfl) rfl (fun K hK => ?_)
        go_simp
        go_wp2_with (go_at_call 10; (with_reducible refine (CXB.out _ (HT.out.below HB8.out)).mono ?_); rintro e w9 ⟨rfl, hb9⟩; have hs9 : _ ∧ _ := ⟨hs8.1.below hb9, hs8.2.below hb9⟩; have HB9 := Lib.hid (below2 HB8.out hb9))
        refine hK.out _ _ (fun _ => hs9) ?_
        clear hK K
        try simp only [Act.put, List.setIfInBounds_toArray, List.set_cons_zero, List.set_cons_succ]
        clear hHeld
        have hHeld := hs9
        refine take_at (i := 12) (v := ?_) 85 rfl rfl (by kernel_rfl) (by kernel_rfl) (by kernel_rfl) (by kernel_rfl) (by kernel_rfl) (by kernel_rfl) (by kernel_rfl) (fun _ _ _ h => h) (Or.inl ⟨by kernel_rfl, ?_⟩) hHeld ?_
        rotate_left
        · intro w hSw; (try dsimp only at hSw); skip; go_simp; (try with_reducible rfl)
        try simp only [Act.put, List.setIfInBounds_toArray, List.set_cons_zero, List.set_cons_succ]
        refine take_at (i := 16) (v := ?_) 89 rfl rfl (by kernel_rfl) (by kernel_rfl) (by kernel_rfl) (by kernel_rfl) (by kernel_rfl) (by kernel_rfl) (by kernel_rfl) (fun _ _ _ h => h) (Or.inl ⟨by kernel_rfl, ?_⟩) hHeld ?_
        rotate_left
        · intro w hSw; (try dsimp only at hSw); skip; go_simp; (try with_reducible rfl)
        try simp only [Act.put, List.setIfInBounds_toArray, List.set_cons_zero, List.set_cons_succ]
        refine take_at (i := 17) (v := ?_) 90 rfl rfl (by kernel_rfl) (by kernel_rfl) (by kernel_rfl) (by kernel_rfl) (by kernel_rfl) (by kernel_rfl) (by kernel_rfl) (fun _ _ _ h => h) (Or.inl ⟨by kernel_rfl, ?_⟩) hHeld ?_
        rotate_left
        · intro w hSw; (try dsimp only at hSw); skip; go_simp; (try with_reducible rfl)
        try simp only [Act.put, List.setIfInBounds_toArray, List.set_cons_zero, List.set_cons_succ]
        refine take_at (i := 18) (v := ?_) 91 rfl rfl (by kernel_rfl) (by kernel_rfl) (by kernel_rfl) (by kernel_rfl) (by kernel_rfl) (by kernel_rfl) (by kernel_rfl) (fun _ _ _ h => h) (Or.inl ⟨by kernel_rfl, ?_⟩) hHeld ?_
        rotate_left
        · intro w hSw; (try dsimp only at hSw); skip; go_simp; (try with_reducible rfl)
        try simp only [Act.put, List.setIfInBounds_toArray, List.set_cons_zero, List.set_cons_succ]
        refine Ord.wpAnyU_one (i := 19) (by kernel_rfl) rfl (fun K hK => ?_)
        go_simp
        go_wp2_with (go_at_call 5; (with_reducible refine (CA.out _ (HT.out.below HB9.out)).mono ?_); rintro e w10 ⟨rfl, hb10⟩; have hs10 : _ ∧ _ := ⟨hs9.1.below hb10, hs9.2.below hb10⟩; have HB10 := Lib.hid (below2 HB9.out hb10))
        refine hK.out _ _ (fun _ => hs10) ?_
        clear hK K
        try simp only [Act.put, List.setIfInBounds_toArray, List.set_cons_zero, List.set_cons_succ]
        clear hHeld
        have hHeld := hs10
        refine take_at (i := 20) (v := ?_) 93 rfl rfl (by kernel_rfl) (by kernel_rfl) (by kernel_rfl) (by kernel_rfl) (by kernel_rfl) (by kernel_rfl) (by kernel_rfl) (fun _ _ _ h => h) (Or.inl ⟨by kernel_rfl, ?_⟩) hHeld ?_
        rotate_left
        · intro w hSw; (try dsimp only at hSw); skip; go_simp; (try with_reducible rfl)
        try simp only [Act.put, List.setIfInBounds_toArray, List.set_cons_zero, List.set_cons_succ]
        refine Ord.wpAnyU_one (i := 21) (by kernel_rfl) rfl (fun K hK => ?_)
        go_simp
        refine hK.out _ _ (fun _ => hs10) ?_
        clear hK K
        try simp only [Act.put, List.setIfInBounds_toArray, List.set_cons_zero, List.set_cons_succ]
        refine Ord.wpAnyU_done (by kernel_rfl) ?_ _
        go_wp2
        go_ret
        exact ⟨rfl, HB10.out⟩
      · clear hDP hDT ma mb
        go_enter Tryd.func4, Tryd.ntmps4
        go_upto_region 3 with fail
        refine wp_named fun W0 hW0 => ?_
        have HA0 : Hid (Rp W0 w.heap.size a) := by rw [hW0]; exact (rp_new (w := w) rfl a).below (below_al (Below.refl _ _) _)
        have HB0 : Hid (Rp W0 (w.heap.size + 1) b) := by rw [hW0]; exact rp_new (by simp) b
        have HW0 : Hid (Below w.heap.size w W0) := by rw [hW0]; exact below_al (below_al (Below.refl _ _) _) _
        clear hW0
        apply wp_region_lit
        refine load_rep rfl (.tmp 3) rfl w.heap.size rfl a HA0.out ?_
        go_upto_region 4 with (go_at_call 6; (with_reducible refine (CPA.out _).mono ?_); rintro e w1 ⟨rfl, hb1⟩; have HA1 := Lib.hid (HA0.out.below hb1); have HB1 := Lib.hid (HB0.out.below hb1); have HW1 := Lib.hid (below2 HW0.out hb1); clear hb1)
        apply wp_region_lit
        refine load_rep rfl (.tmp 4) rfl (w.heap.size + 1) rfl b HB1.out ?_
        go_upto_region 5 with (go_at_call 6; (with_reducible refine (CPB.out _).mono ?_); rintro e w2 ⟨rfl, hb2⟩; have HA2 := Lib.hid (HA1.out.below hb2); have HB2 := Lib.hid (HB1.out.below hb2); have HW2 := Lib.hid (below2 HW1.out hb2); clear hb2)
        go_upto_region 6 with (first
          | (go_at_call 8; (with_reducible refine (CT.out _).mono ?_); rintro e w3 ⟨rfl, hb3⟩)
          | (refine store_rep rfl (.tmp 11) (.tmp 34) rfl rfl w3.heap.size x (ofE 0) rfl rfl (heap_alloc_new w3 _) ?_; refine wpl_named fun w4 hw4 => ?_; have HX4 : Hid (Rp w4 w3.heap.size x) := (by rw [hw4]; exact rp_of_heap (setRow_rep x (c0 := ofE 0) (heap_alloc_new w3 _))); have HN4 : Hid (Below w3.heap.size w3 w4) := (by rw [hw4]; exact below_setRow (below_al (Below.refl _ _) _) _ (Nat.le_refl _) _); have HN24 := Lib.hid (below2 hb3 HN4.out); have HW4 := Lib.hid (below2 HW2.out HN24.out); have HA4 := Lib.hid (HA2.out.below HN24.out); have HB4 := Lib.hid (HB2.out.below HN24.out); clear hw4 hb3))
        apply wp_region_lit
        refine load_rep rfl (.tmp 11) rfl w3.heap.size rfl x HX4.out ?_
        go_upto_region 9 with (go_at_call 6; (with_reducible refine (CPX.out _).mono ?_); rintro e w5 ⟨rfl, hb5⟩; have HA5 := Lib.hid (HA4.out.below hb5); have HB5 := Lib.hid (HB4.out.below hb5); have HW5 := Lib.hid (below2 HW4.out hb5); clear hb5)
        go_upto_region 11 with (first
          | (go_at_call 8; (with_reducible refine (CTA.out _).mono ?_); rintro e w6 ⟨rfl, hb6⟩)
          | (refine store_rep rfl (.tmp 15) (.tmp 57) rfl rfl w6.heap.size a (ofE 0) rfl rfl (heap_alloc_new w6 _) ?_; refine wpl_named fun w7 hw7 => ?_; have HY7 : Hid (Rp w7 w6.heap.size a) := (by rw [hw7]; exact rp_of_heap (setRow_rep a (c0 := ofE 0) (heap_alloc_new w6 _))); have HN7 : Hid (Below w6.heap.size w6 w7) := (by rw [hw7]; exact below_setRow (below_al (Below.refl _ _) _) _ (Nat.le_refl _) _); have HN57 := Lib.hid (below2 hb6 HN7.out); have HW7 := Lib.hid (below2 HW5.out HN57.out); have HA7 := Lib.hid (HA5.out.below HN57.out); have HB7 := Lib.hid (HB5.out.below HN57.out); clear hw7 hb6))
        apply wp_region_lit
        iterate 3 (refine wpList_step (fun K hK => ?_); go_simp; refine hK _ _ ?_; clear hK K)
        refine wpList_unguard rfl ?_
        refine load_rep rfl (.tmp 15) rfl w6.heap.size rfl a HY7.out ?_
        refine wpList_unguard rfl ?_
        refine load_rep rfl (.tmp 3) rfl w.heap.size rfl a HA7.out ?_
        refine wpList_unguard rfl ?_
        refine wpList_run rfl (run_other (a := a) (.tmp 62) (.tmp 63) rfl rfl rfl) ?_
        go_wp2_with (go_at_call 5; (with_reducible refine (CA.out _ (HT.out.below HW7.out)).mono ?_); rintro e w9 ⟨rfl, hb9⟩; have HW9 := Lib.hid (below2 HW7.out hb9); clear hb9)
        go_ret
        exact ⟨rfl, HW9.out⟩
    · clear CTA
      clear hDP hDT ma
      rcases pb with ⟨rfl, mb⟩ | ⟨rfl, mb⟩
      all_goals
        go_enter Tryd.func4, Tryd.ntmps4
        go_upto_region 3 with fail
        refine wp_named fun W0 hW0 => ?_
        have HA0 : Hid (Rp W0 w.heap.size a) := by rw [hW0]; exact (rp_new (w := w) rfl a).below (below_al (Below.refl _ _) _)
        have HB0 : Hid (Rp W0 (w.heap.size + 1) b) := by rw [hW0]; exact rp_new (by simp) b
        have HW0 : Hid (Below w.heap.size w W0) := by rw [hW0]; exact below_al (below_al (Below.refl _ _) _) _
        clear hW0
        apply wp_region_lit
        refine load_rep rfl (.tmp 3) rfl w.heap.size rfl a HA0.out ?_
        go_upto_region 4 with (go_at_call 6; (with_reducible refine (CPA.out _).mono ?_); rintro e w1 ⟨rfl, hb1⟩; have HA1 := Lib.hid (HA0.out.below hb1); have HB1 := Lib.hid (HB0.out.below hb1); have HW1 := Lib.hid (below2 HW0.out hb1); clear hb1)
        apply wp_region_lit
        refine load_rep rfl (.tmp 4) rfl (w.heap.size + 1) rfl b HB1.out ?_
        go_upto_region 5 with (go_at_call 6; (with_reducible refine (CPB.out _).mono ?_); rintro e w2 ⟨rfl, hb2⟩; have HA2 := Lib.hid (HA1.out.below hb2); have HB2 := Lib.hid (HB1.out.below hb2); have HW2 := Lib.hid (below2 HW1.out hb2); clear hb2)
        go_upto_region 6 with (first
          | (go_at_call 8; (with_reducible refine (CT.out _).mono ?_); rintro e w3 ⟨rfl, hb3⟩)
          | (refine store_rep rfl (.tmp 11) (.tmp 34) rfl rfl w3.heap.size x (ofE 0) rfl rfl (heap_alloc_new w3 _) ?_; refine wpl_named fun w4 hw4 => ?_; have HX4 : Hid (Rp w4 w3.heap.size x) := (by rw [hw4]; exact rp_of_heap (setRow_rep x (c0 := ofE 0) (heap_alloc_new w3 _))); have HN4 : Hid (Below w3.heap.size w3 w4) := (by rw [hw4]; exact below_setRow (below_al (Below.refl _ _) _) _ (Nat.le_refl _) _); have HN24 := Lib.hid (below2 hb3 HN4.out); have HW4 := Lib.hid (below2 HW2.out HN24.out); have HA4 := Lib.hid (HA2.out.below HN24.out); have HB4 := Lib.hid (HB2.out.below HN24.out); clear hw4 hb3))
        apply wp_region_lit
        refine load_rep rfl (.tmp 11) rfl w3.heap.size rfl x HX4.out ?_
        go_upto_region 9 with (go_at_call 6; (with_reducible refine (CPX.out _).mono ?_); rintro e w5 ⟨rfl, hb5⟩; have HA5 := Lib.hid (HA4.out.below hb5); have HB5 := Lib.hid (HB4.out.below hb5); have HW5 := Lib.hid (below2 HW4.out hb5); clear hb5)
        go_wp2_with (go_at_call 5; (with_reducible refine (CA.out _ (HT.out.below HW5.out)).mono ?_); rintro e w9 ⟨rfl, hb9⟩; have HW9 := Lib.hid (below2 HW5.out hb9); clear hb9)
        go_ret
        exact ⟨rfl, HW9.out⟩
  · rcases pa with ⟨rfl, ma⟩ | ⟨rfl, ma⟩
    · replace CTA := Lib.hid (CTA.out ma)
      rcases pb with ⟨rfl, mb⟩ | ⟨rfl, mb⟩
      · have qp := hDP ma mb
        have qt := hDT ma mb
        clear hDP hDT ma mb
        go_enter Tryd.func4, Tryd.ntmps4
        go_upto_region 3 with fail
        refine wp_named fun W0 hW0 => ?_
        have HA0 : Hid (Rp W0 w.heap.size a) := by rw [hW0]; exact (rp_new (w := w) rfl a).below (below_al (Below.refl _ _) _)
        have HB0 : Hid (Rp W0 (w.heap.size + 1) b) := by rw [hW0]; exact rp_new (by simp) b
        have HW0 : Hid (Below w.heap.size w W0) := by rw [hW0]; exact below_al (below_al (Below.refl _ _) _) _
        clear hW0
        apply wp_region_lit
        refine load_rep rfl (.tmp 3) rfl w.heap.size rfl a HA0.out ?_
        go_upto_region 4 with (go_at_call 6; (with_reducible refine (CPA.out _).mono ?_); rintro e w1 ⟨rfl, hb1⟩; have HA1 := Lib.hid (HA0.out.below hb1); have HB1 := Lib.hid (HB0.out.below hb1); have HW1 := Lib.hid (below2 HW0.out hb1); clear hb1)
        apply wp_region_lit
        refine load_rep rfl (.tmp 4) rfl (w.heap.size + 1) rfl b HB1.out ?_
        go_upto_region 5 with (go_at_call 6; (with_reducible refine (CPB.out _).mono ?_); rintro e w2 ⟨rfl, hb2⟩; have HA2 := Lib.hid (HA1.out.below hb2); have HB2 := Lib.hid (HB1.out.below hb2); have HW2 := Lib.hid (below2 HW1.out hb2); clear hb2)
        go_upto_region 6 with (first
          | (go_at_call 8; (with_reducible refine (CT.out _).mono ?_); rintro e w3 ⟨rfl, hb3⟩)
          | (refine store_rep rfl (.tmp 11) (.tmp 34) rfl rfl w3.heap.size x (ofE 0) rfl rfl (heap_alloc_new w3 _) ?_; refine wpl_named fun w4 hw4 => ?_; have HX4 : Hid (Rp w4 w3.heap.size x) := (by rw [hw4]; exact rp_of_heap (setRow_rep x (c0 := ofE 0) (heap_alloc_new w3 _))); have HN4 : Hid (Below w3.heap.size w3 w4) := (by rw [hw4]; exact below_setRow (below_al (Below.refl _ _) _) _ (Nat.le_refl _) _); have HN24 := Lib.hid (below2 hb3 HN4.out); have HW4 := Lib.hid (below2 HW2.out HN24.out); have HA4 := Lib.hid (HA2.out.below HN24.out); have HB4 := Lib.hid (HB2.out.below HN24.out); clear hw4 hb3))
        apply wp_region_lit
        refine load_rep rfl (.tmp 11) rfl w3.heap.size rfl x HX4.out ?_
        go_upto_region 9 with (go_at_call 6; (with_reducible refine (CPX.out _).mono ?_); rintro e w5 ⟨rfl, hb5⟩; have HA5 := Lib.hid (HA4.out.below hb5); have HB5 := Lib.hid (HB4.out.below hb5); have HW5 := Lib.hid (below2 HW4.out hb5); clear hb5)
        go_upto_region 11 with (first
          | (go_at_call 8; (with_reducible refine (CTA.out _).mono ?_); rintro e w6 ⟨rfl, hb6⟩)
          | (refine store_rep rfl (.tmp 15) (.tmp 57) rfl rfl w6.heap.size a (ofE 0) rfl rfl (heap_alloc_new w6 _) ?_; refine wpl_named fun w7 hw7 => ?_; have HY7 : Hid (Rp w7 w6.heap.size a) := (by rw [hw7]; exact rp_of_heap (setRow_rep a (c0 := ofE 0) (heap_alloc_new w6 _))); have HN7 : Hid (Below w6.heap.size w6 w7) := (by rw [hw7]; exact below_setRow (below_al (Below.refl _ _) _) _ (Nat.le_refl _) _); have HN57 := Lib.hid (below2 hb6 HN7.out); have HW7 := Lib.hid (below2 HW5.out HN57.out); have HA7 := Lib.hid (HA5.out.below HN57.out); have HB7 := Lib.hid (HB5.out.below HN57.out); clear hw7 hb6))
        apply wp_region_lit
        iterate 3 (refine wpList_step (fun K hK => ?_); go_simp; refine hK _ _ ?_; clear hK K)
        refine wpList_unguard rfl ?_
        refine load_rep rfl (.tmp 15) rfl w6.heap.size rfl a HY7.out ?_
        refine wpList_unguard rfl ?_
        refine load_rep rfl (.tmp 3) rfl w.heap.size rfl a HA7.out ?_
        refine wpList_unguard rfl ?_
        refine wpList_run rfl (run_other (a := a) (.tmp 62) (.tmp 63) rfl rfl rfl) ?_
        go_upto_region 15 with fail
        have hH0 : Rp w7.drew w.heap.size a ∧ Rp w7.drew (w.heap.size + 1) b := ⟨HA7.out.drew, HB7.out.drew⟩
        have HD7 : Hid (Below w.heap.size w w7.drew) := below_dN HW7.out 1
        refine Ord.wp_region_U (fun W' => Rp W' w.heap.size a ∧ Rp W' (w.heap.size + 1) b) [] (by kernel_rfl) ?_
        have hHeld := hH0
        refine take_at (i := 0) (v := ?_) 73 rfl rfl (by kernel_rfl) (by kernel_rfl) (by kernel_rfl) (by kernel_rfl) (by kernel_rfl) (by kernel_rfl) (by kernel_rfl) (fun _ _ _ h => h) (Or.inl ⟨by kernel_rfl, ?_⟩) hHeld ?_
        rotate_left
        · intro w hSw; (try dsimp only at hSw); skip; go_simp; (try with_reducible rfl)
        try simp only [Act.put, List.setIfInBounds_toArray, List.set_cons_zero, List.set_cons_succ]
        refine take_at (i := 1) (v := ?_) 74 rfl rfl (by kernel_rfl) (by kernel_rfl) (by kernel_rfl) (by kernel_rfl) (by kernel_rfl) (by kernel_rfl) (by kernel_rfl) (fun _ _ _ h => h) (Or.inl ⟨by kernel_rfl, ?_⟩) hHeld ?_
        rotate_left
        · intro w hSw; (try dsimp only at hSw); skip; go_simp; (try with_reducible rfl)
        try simp only [Act.put, List.setIfInBounds_toArray, List.set_cons_zero, List.set_cons_succ]
        refine take_at (i := 2) (v := ?_) 75 rfl rfl (by kernel_rfl) (by kernel_rfl) (by kernel_rfl) (by kernel_rfl) (by kernel_rfl) (by kernel_rfl) (by kernel_rfl) (fun _ _ _ h => h) (Or.inl ⟨by kernel_rfl, ?_⟩) hHeld ?_
        rotate_left
        · intro w hSw; (try dsimp only at hSw); skip; go_simp; (try with_reducible rfl)
        try simp only [Act.put, List.setIfInBounds_toArray, List.set_cons_zero, List.set_cons_succ]
        refine take_at (i := 3) (v := .agg a.val) 76 rfl rfl (by kernel_rfl) (by kernel_rfl) (by kernel_rfl) (by kernel_rfl) (by kernel_rfl) (by kernel_rfl) (by kernel_rfl) (fun _ _ _ h => h) (Or.inl ⟨by kernel_rfl, ?_⟩) hHeld ?_
        · exact fun W2 hS2 => run_load_rep (.tmp 3) rfl rfl hS2.1
        try simp only [Act.put, List.setIfInBounds_toArray, List.set_cons_zero, List.set_cons_succ]
        refine take_at (i := 4) (v := .agg b.val) 77 rfl rfl (by kernel_rfl) (by kernel_rfl) (by kernel_rfl) (by kernel_rfl) (by kernel_rfl) (by kernel_rfl) (by kernel_rfl) (fun _ _ _ h => h) (Or.inl ⟨by kernel_rfl, ?_⟩) hHeld ?_
        · exact fun W2 hS2 => run_load_rep (.tmp 4) rfl rfl hS2.2
        try simp only [Act.put, List.setIfInBounds_toArray, List.set_cons_zero, List.set_cons_succ]
        refine take_at (i := 5) (v := .bool (decide (a = b))) 78 rfl rfl (by kernel_rfl) (by kernel_rfl) (by kernel_rfl) (by kernel_rfl) (by kernel_rfl) (by kernel_rfl) (by kernel_rfl) (fun _ _ _ h => h) (Or.inl ⟨by kernel_rfl, ?_⟩) hHeld ?_
        · exact fun W2 hS2 => run_eq (.tmp 76) (.tmp 77) rfl rfl rfl
        try simp only [Act.put, List.setIfInBounds_toArray, List.set_cons_zero, List.set_cons_succ]
        rw [hDD.out]
        refine take_at (i := 6) (v := ?_) 79 rfl rfl (by kernel_rfl) (by kernel_rfl) (by kernel_rfl) (by kernel_rfl) (by kernel_rfl) (by kernel_rfl) (by kernel_rfl) (fun _ _ _ h => h) (Or.inl ⟨by kernel_rfl, ?_⟩) hHeld ?_
        rotate_left
        · intro w hSw; (try dsimp only at hSw); skip; go_simp; (try with_reducible rfl)
        try simp only [Act.put, List.setIfInBounds_toArray, List.set_cons_zero, List.set_cons_succ]
        refine take_at (i := 7) (v := ?_) 80 rfl rfl (by kernel_rfl) (by kernel_rfl) (by kernel_rfl) (by kernel_rfl) (by kernel_rfl) (by kernel_rfl) (by kernel_rfl) (fun _ _ _ h => h) (Or.inl ⟨by kernel_rfl, ?_⟩) hHeld ?_
        rotate_left
        · intro w hSw; (try dsimp only at hSw); skip; go_simp; (try with_reducible rfl)
        try simp only [Act.put, List.setIfInBounds_toArray, List.set_cons_zero, List.set_cons_succ]
        refine take_at (i := 8) (v := .agg a.val) 81 rfl rfl (by kernel_rfl) (by kernel_rfl) (by kernel_rfl) (by kernel_rfl) (by kernel_rfl) (by kernel_rfl) (by kernel_rfl) (fun _ _ _ h => h) (Or.inl ⟨by kernel_rfl, ?_⟩) hHeld ?_
        · exact fun W2 hS2 => run_load_rep (.tmp 3) rfl rfl hS2.1
        try simp only [Act.put, List.setIfInBounds_toArray, List.set_cons_zero, List.set_cons_succ]
        refine take_at (i := 10) (v := .agg b.val) 83 rfl rfl (by kernel_rfl) (by kernel_rfl) (by kernel_rfl) (by kernel_rfl) (by kernel_rfl) (by kernel_rfl) (by kernel_rfl) (fun _ _ _ h => h) (Or.inl ⟨by kernel_rfl, ?_⟩) hHeld ?_
        · exact fun W2 hS2 => run_load_rep (.tmp 4) rfl rfl hS2.2
        try simp only [Act.put, List.setIfInBounds_toArray, List.set_cons_zero, List.set_cons_succ]
        refine take_at (i := 13) (v := .agg a.val) 86 rfl rfl (by kernel_rfl) (by kernel_rfl) (by kernel_rfl) (by kernel_rfl) (by kernel_rfl) (by kernel_rfl) (by kernel_rfl) (fun _ _ _ h => h) (Or.inl ⟨by kernel_rfl, ?_⟩) hHeld ?_
        · exact fun W2 hS2 => run_load_rep (.tmp 3) rfl rfl hS2.1
        try simp only [Act.put, List.setIfInBounds_toArray, List.set_cons_zero, List.set_cons_succ]
        refine take_at (i := 14) (v := .agg b.val) 87 rfl rfl (by kernel_rfl) (by kernel_rfl) (by kernel_rfl) (by kernel_rfl) (by kernel_rfl) (by kernel_rfl) (by kernel_rfl) (fun _ _ _ h => h) (Or.inl ⟨by kernel_rfl, ?_⟩) hHeld ?_
        · exact fun W2 hS2 => run_load_rep (.tmp 4) rfl rfl hS2.2
        try simp only [Act.put, List.setIfInBounds_toArray, List.set_cons_zero, List.set_cons_succ]
        refine take_at (i := 15) (v := .bool (decide (a = b))) 88 rfl rfl (by kernel_rfl) (by kernel_rfl) (by kernel_rfl) (by kernel_rfl) (by kernel_rfl) (by kernel_rfl) (by kernel_rfl) (fun _ _ _ h => h) (Or.inl ⟨by kernel_rfl, ?_⟩) hHeld ?_
        · exact fun W2 hS2 => run_eq (.tmp 86) (.tmp 87) rfl rfl rfl
        try simp only [Act.put, List.setIfInBounds_toArray, List.set_cons_zero, List.set_cons_succ]
        rw [hDD.out]
        refine Ord.wpAnyU_one (i := 9) (by kernel_rfl) rfl (fun K hK => ?_)
        go_simp
        go_wp2_with (go_at_call 10; (with_reducible refine (CXA.out _ (HT.out.below HD7.out)).mono ?_); rintro e w8 ⟨rfl, hb8⟩; have hs8 : _ ∧ _ := ⟨hH0.1.below hb8, hH0.2.below hb8⟩; have HB8 := Lib.hid (below2 HD7.out hb8))
        refine hK.out _ _ (fun _ => hs8) ?_
        clear hK K
        try simp only [Act.put, List.setIfInBounds_toArray, List.set_cons_zero, List.set_cons_succ]
        refine Ord.wpAnyU_one (i := 11) (by kernel_rfl) rfl (fun K hK => ?_)
        go_simp
        go_wp2_with (go_at_call 10; (with_reducible refine (CXB.out _ (HT.out.below HB8.out)).mono ?_); rintro e w9 ⟨rfl, hb9⟩; have hs9 : _ ∧ _ := ⟨hs8.1.below hb9, hs8.2.below hb9⟩; have HB9 := Lib.hid (below2 HB8.out hb9))
        refine hK.out _ _ (fun _ => hs9) ?_
        clear hK K
        try simp only [Act.put, List.setIfInBounds_toArray, List.set_cons_zero, List.set_cons_succ]
        clear hHeld
        have hHeld := hs9
        refine take_at (i := 12) (v := ?_) 85 rfl rfl (by kernel_rfl) (by kernel_rfl) (by kernel_rfl) (by kernel_rfl) (by kernel_rfl) (by kernel_rfl) (by kernel_rfl) (fun _ _ _ h => h) (Or.inl ⟨by kernel_rfl, ?_⟩) hHeld ?_
        rotate_left
        · intro w hSw; (try dsimp only at hSw); skip; go_simp; (try with_reducible rfl)
        try simp only [Act.put, List.setIfInBounds_toArray, List.set_cons_zero, List.set_cons_succ]
        refine take_at (i := 16) (v := ?_) 89 rfl rfl (by kernel_rfl) (by kernel_rfl) (by kernel_rfl) (by kernel_rfl) (by kernel_rfl) (by kernel_rfl) (by kernel_rfl) (fun _ _ _ h => h) (Or.inl ⟨by kernel_rfl, ?_⟩) hHeld ?_
        rotate_left
        · intro w hSw; (try dsimp only at hSw); skip; go_simp; (try with_reducible rfl)
        try simp only [Act.put, List.setIfInBounds_toArray, List.set_cons_zero, List.set_cons_succ]
        refine take_at (i := 17) (v := ?_) 90 rfl rfl (by kernel_rfl) (by kernel_rfl) (by kernel_rfl) (by kernel_rfl) (by kernel_rfl) (by kernel_rfl) (by kernel_rfl) (fun _ _ _ h => h) (Or.inl ⟨by kernel_rfl, ?_⟩) hHeld ?_
        rotate_left
        · intro w hSw; (try dsimp only at hSw); skip; go_simp; (try with_reducible rfl)
        try simp only [Act.put, List.setIfInBounds_toArray, List.set_cons_zero, List.set_cons_succ]
        refine take_at (i := 18) (v := ?_) 91 rfl rfl (by kernel_rfl) (by kernel_rfl) (by kernel_rfl) (by kernel_rfl) (by kernel_rfl) (by kernel_rfl) (by kernel_rfl) (fun _ _ _ h => h) (Or.inl ⟨by kernel_rfl, ?_⟩) hHeld ?_
        rotate_left
        · intro w hSw; (try dsimp only at hSw); skip; go_simp; (try with_reducible rfl)
        try simp only [Act.put, List.setIfInBounds_toArray, List.set_cons_zero, List.set_cons_succ]
        refine Ord.wpAnyU_one (i := 19) (by kernel_rfl) rfl (fun K hK => ?_)
        go_simp
        go_wp2_with (go_at_call 5; (with_reducible refine (CA.out _ (HT.out.below HB9.out)).mono ?_); rintro e w10 ⟨rfl, hb10⟩; have hs10 : _ ∧ _ := ⟨hs9.1.below hb10, hs9.2.below hb10⟩; have HB10 := Lib.hid (below2 HB9.out hb10))
        refine hK.out _ _ (fun _ => hs10) ?_
        clear hK K
        try simp only [Act.put, List.setIfInBounds_toArray, List.set_cons_zero, List.set_cons_succ]
        clear hHeld
        have hHeld := hs10
        refine take_at (i := 20) (v := ?_) 93 rfl rfl (by kernel_rfl) (by kernel_rfl) (by kernel_rfl) (by kernel_rfl) (by kernel_rfl) (by kernel_rfl) (by kernel_rfl) (fun _ _ _ h => h) (Or.inl ⟨by kernel_rfl, ?_⟩) hHeld ?_
        rotate_left
        · intro w hSw; (try dsimp only at hSw); skip; go_simp; (try with_reducible rfl)
        try simp only [Act.put, List.setIfInBounds_toArray, List.set_cons_zero, List.set_cons_succ]
        refine Ord.wpAnyU_one (i := 21) (by kernel_rfl) rfl (fun K hK => ?_)
        go_simp
        refine hK.out _ _ (fun _ => hs10) ?_
        clear hK K
        try simp only [Act.put, List.setIfInBounds_toArray, List.set_cons_zero, List.set_cons_succ]
        refine Ord.wpAnyU_done (by kernel_rfl) ?_ _
        go_wp2
        go_ret
        exact ⟨rfl, HB10.out⟩
      · clear hDP hDT ma mb
        go_enter Tryd.func4, Tryd.ntmps4
        go_upto_region 3 with fail
        refine wp_named fun W0 hW0 => ?_
        have HA0 : Hid (Rp W0 w.heap.size a) := by rw [hW0]; exact (rp_new (w := w) rfl a).below (below_al (Below.refl _ _) _)
        have HB0 : Hid (Rp W0 (w.heap.size + 1) b) := by rw [hW0]; exact rp_new (by simp) b
        have HW0 : Hid (Below w.heap.size w W0) := by rw [hW0]; exact below_al (below_al (Below.refl _ _) _) _
        clear hW0
        apply wp_region_lit
        refine load_rep rfl (.tmp 3) rfl w.heap.size rfl a HA0.out ?_
        go_upto_region 4 with (go_at_call 6; (with_reducible refine (CPA.out _).mono ?_); rintro e w1 ⟨rfl, hb1⟩; have HA1 := Lib.hid (HA0.out.below hb1); have HB1 := Lib.hid (HB0.out.below hb1); have HW1 := Lib.hid (below2 HW0.out hb1); clear hb1)
        apply wp_region_lit
        refine load_rep rfl (.tmp 4) rfl (w.heap.size + 1) rfl b HB1.out ?_
        go_upto_region 5 with (go_at_call 6; (with_reducible refine (CPB.out _).mono ?_); rintro e w2 ⟨rfl, hb2⟩; have HA2 := Lib.hid (HA1.out.below hb2); have HB2 := Lib.hid (HB1.out.below hb2); have HW2 := Lib.hid (below2 HW1.out hb2); clear hb2)
        go_upto_region 6 with (first
          | (go_at_call 8; (with_reducible refine (CT.out _).mono ?_); rintro e w3 ⟨rfl, hb3⟩)
          | (refine store_rep rfl (.tmp 11) (.tmp 34) rfl rfl w3.heap.size x (ofE 0) rfl rfl (heap_alloc_new w3 _) ?_; refine wpl_named fun w4 hw4 => ?_; have HX4 : Hid (Rp w4 w3.heap.size x) := (by rw [hw4]; exact rp_of_heap (setRow_rep x (c0 := ofE 0) (heap_alloc_new w3 _))); have HN4 : Hid (Below w3.heap.size w3 w4) := (by rw [hw4]; exact below_setRow (below_al (Below.refl _ _) _) _ (Nat.le_refl _) _); have HN24 := Lib.hid (below2 hb3 HN4.out); have HW4 := Lib.hid (below2 HW2.out HN24.out); have HA4 := Lib.hid (HA2.out.below HN24.out); have HB4 := Lib.hid (HB2.out.below HN24.out); clear hw4 hb3))
        apply wp_region_lit
        refine load_rep rfl (.tmp 11) rfl w3.heap.size rfl x HX4.out ?_
        go_upto_region 9 with (go_at_call 6; (with_reducible refine (CPX.out _).mono ?_); rintro e w5 ⟨rfl, hb5⟩; have HA5 := Lib.hid (HA4.out.below hb5); have HB5 := Lib.hid (HB4.out.below hb5); have HW5 := Lib.hid (below2 HW4.out hb5); clear hb5)
        go_upto_region 11 with (first
          | (go_at_call 8; (with_reducible refine (CTA.out _).mono ?_); rintro e w6 ⟨rfl, hb6⟩)
          | (refine store_rep rfl (.tmp 15) (.tmp 57) rfl rfl w6.heap.size a (ofE 0) rfl rfl (heap_alloc_new w6 _) ?_; refine wpl_named fun w7 hw7 => ?_; have HY7 : Hid (Rp w7 w6.heap.size a) := (by rw [hw7]; exact rp_of_heap (setRow_rep a (c0 := ofE 0) (heap_alloc_new w6 _))); have HN7 : Hid (Below w6.heap.size w6 w7) := (by rw [hw7]; exact below_setRow (below_al (Below.refl _ _) _) _ (Nat.le_refl _) _); have HN57 := Lib.hid (below2 hb6 HN7.out); have HW7 := Lib.hid (below2 HW5.out HN57.out); have HA7 := Lib.hid (HA5.out.below HN57.out); have HB7 := Lib.hid (HB5.out.below HN57.out); clear hw7 hb6))
        apply wp_region_lit
        iterate 3 (refine wpList_step (fun K hK => ?_); go_simp; refine hK _ _ ?_; clear hK K)
        refine wpList_unguard rfl ?_
        refine load_rep rfl (.tmp 15) rfl w6.heap.size rfl a HY7.out ?_
        refine wpList_unguard rfl ?_
        refine load_rep rfl (.tmp 3) rfl w.heap.size rfl a HA7.out ?_
        refine wpList_unguard rfl ?_
        refine wpList_run rfl (run_other (a := a) (.tmp 62) (.tmp 63) rfl rfl rfl) ?_
        go_wp2_with (go_at_call 5; (with_reducible refine (CA.out _ (HT.out.below HW7.out)).mono ?_); rintro e w9 ⟨rfl, hb9⟩; have HW9 := Lib.hid (below2 HW7.out hb9); clear hb9)
        go_ret
        exact ⟨rfl, HW9.out⟩
    · clear CTA
      clear hDP hDT ma
      rcases pb with ⟨rfl, mb⟩ | ⟨rfl, mb⟩
      all_goals
        go_enter Tryd.func4, Tryd.ntmps4
        go_upto_region 3 with fail
        refine wp_named fun W0 hW0 => ?_
        have HA0 : Hid (Rp W0 w.heap.size a) := by rw [hW0]; exact (rp_new (w := w) rfl a).below (below_al (Below.refl _ _) _)
        have HB0 : Hid (Rp W0 (w.heap.size + 1) b) := by rw [hW0]; exact rp_new (by simp) b
        have HW0 : Hid (Below w.heap.size w W0) := by rw [hW0]; exact below_al (below_al (Below.refl _ _) _) _
        clear hW0
        apply wp_region_lit
        refine load_rep rfl (.tmp 3) rfl w.heap.size rfl a HA0.out ?_
        go_upto_region 4 with (go_at_call 6; (with_reducible refine (CPA.out _).mono ?_); rintro e w1 ⟨rfl, hb1⟩; have HA1 := Lib.hid (HA0.out.below hb1); have HB1 := Lib.hid (HB0.out.below hb1); have HW1 := Lib.hid (below2 HW0.out hb1); clear hb1)
        apply wp_region_lit
        refine load_rep rfl (.tmp 4) rfl (w.heap.size + 1) rfl b HB1.out ?_
        go_upto_region 5 with (go_at_call 6; (with_reducible refine (CPB.out _).mono ?_); rintro e w2 ⟨rfl, hb2⟩; have HA2 := Lib.hid (HA1.out.below hb2); have HB2 := Lib.hid (HB1.out.below hb2); have HW2 := Lib.hid (below2 HW1.out hb2); clear hb2)
        go_upto_region 6 with (first
          | (go_at_call 8; (with_reducible refine (CT.out _).mono ?_); rintro e w3 ⟨rfl, hb3⟩)
          | (refine store_rep rfl (.tmp 11) (.tmp 34) rfl rfl w3.heap.size x (ofE 0) rfl rfl (heap_alloc_new w3 _) ?_; refine wpl_named fun w4 hw4 => ?_; have HX4 : Hid (Rp w4 w3.heap.size x) := (by rw [hw4]; exact rp_of_heap (setRow_rep x (c0 := ofE 0) (heap_alloc_new w3 _))); have HN4 : Hid (Below w3.heap.size w3 w4) := (by rw [hw4]; exact below_setRow (below_al (Below.refl _ _) _) _ (Nat.le_refl _) _); have HN24 := Lib.hid (below2 hb3 HN4.out); have HW4 := Lib.hid (below2 HW2.out HN24.out); have HA4 := Lib.hid (HA2.out.below HN24.out); have HB4 := Lib.hid (HB2.out.below HN24.out); clear hw4 hb3))
        apply wp_region_lit
        refine load_rep rfl (.tmp 11) rfl w3.heap.size rfl x HX4.out ?_
        go_upto_region 9 with (go_at_call 6; (with_reducible refine (CPX.out _).mono ?_); rintro e w5 ⟨rfl, hb5⟩; have HA5 := Lib.hid (HA4.out.below hb5); have HB5 := Lib.hid (HB4.out.below hb5); have HW5 := Lib.hid (below2 HW4.out hb5); clear hb5)
        go_wp2_with (go_at_call 5; (with_reducible refine (CA.out _ (HT.out.below HW5.out)).mono ?_); rintro e w9 ⟨rfl, hb9⟩; have HW9 := Lib.hid (below2 HW5.out hb9); clear hb9)
        go_ret
        exact ⟨rfl, HW9.out⟩
set_option maxRecDepth 100000 in
set_option maxHeartbeats 8000000 in
theorem back_law (a b : RepIn) (ha : Rok a) (hb : Rok b) (s : ByteArray) (w : World) (ht : Tab w) : Calls Tryd.prog 4 #[.agg a.val, .agg b.val, .string s] w fun e w' => e = .returned (.bool true) ∧ Below w.heap.size w w' := by
  by_cases hlen : (128 : Int) < (s.size : Int)
  · have HT := Lib.hid ht
    have CA : Hid (∀ W, Tab W → Calls Tryd.prog 5 #[] W fun e w' => e = .returned (.bool true) ∧ Below W.heap.size W w') := fun W h => awake_any W h
    have dlen : decide ((128 : Int) < (s.size : Int)) = true := decide_eq_true hlen
    clear ht
    go_enter Tryd.func4, Tryd.ntmps4
    go_wp2_with (go_at_call 5; (with_reducible refine (CA.out _ (HT.out.below (below_al (below_al (Below.refl _ _) _) _))).mono ?_); rintro e w2 ⟨rfl, hb2⟩; have HW2 := Lib.hid (below2 (below_al (below_al (Below.refl w.heap.size w) _) _) hb2); clear hb2)
    go_ret
    exact ⟨rfl, HW2.out⟩
  · exact back_short a b ha hb s w ht hlen
end Rep
end Go.Proofs.YtmaddebfoefckaaDoor
