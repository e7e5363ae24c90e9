/- A command's bytes: the document's walk. -/
import Derived.Test.YtbjlkeneeodghaaDoorCmdE
set_option linter.unusedSimpArgs false
set_option linter.unusedVariables false
namespace Go.Proofs.YtbjlkeneeodghaaDoor
open Go.RowKit Go.Great
namespace Cmd
open Pen (bs bs_append uintB intB I64)
open In (Strs)
open Rec (below2 below_al below_dN Stk Stks stkVals)
set_option maxRecDepth 100000 in
set_option maxHeartbeats 4000000 in
theorem refPut_any (c : CmdIn) (w : World) (hl : Lies w c) (hc : Cok c) : Calls Tryd.prog 10 #[.agg c.val] w fun e w' => e = .returned (.tuple #[.string (bs (putV c).1), .int .i64 (putV c).2]) ∧ Below w.heap.size w w' := by
  have HL := Lib.hid hl
  have HC := Lib.hid hc
  have HFEW := Lib.hid hc.few
  have hk2 : c.kind ≤ 9223372036854775807 := hc.kind.2
  have HST := Lib.hid (stand_new (w := w) rfl c)
  have CK : Hid (∀ W, Calls Tryd.prog 15 #[.agg c.val] W fun e w' => e = .returned (.int .i64 (chkV c)) ∧ Below W.heap.size W w') := fun W => refCheck_any c W hc.few
  have CF : Hid (∀ W, Calls Tryd.prog 22 #[.int .i64 c.kind] W (Gives (fn c.kind) W)) := fun W => refFields_any c.kind W
  have CG : Hid (∀ s W, Calls Tryd.prog 17 #[.agg c.val, .string s] W fun e w' => e = .returned (.tuple #[.int .i64 (getV c s).1, .bool (getV c s).2]) ∧ Below W.heap.size W w') := fun s W => refGet_any c s W
  have CU : Hid (∀ x : Int, x ≤ 9223372036854775807 → ∀ W, Calls Tryd.prog 30 #[.int .i64 x] W fun e w' => e = .returned (.string (bs (uintB x))) ∧ Below W.heap.size W w') := fun x hx W => Pen.refUint_any x hx W
  have CI : Hid (∀ x, I64 x → ∀ W, Calls Tryd.prog 31 #[.int .i64 x] W fun e w' => e = .returned (.string (bs (intB x))) ∧ Below W.heap.size W w') := fun x hx W => Pen.refInt_any x hx W
  have CS : Hid (∀ (a : Option Addr) (c : Nat) (l : List Stk) (n : Nat), l.length = n → n ≤ 100 → Snum l → ∀ w, Stks w a l → Calls Tryd.prog 32 #[.slice a n c] w fun e w' => e = .returned (.string (bs (stkB l))) ∧ Below w.heap.size w w') := fun a c l n h1 h2 h3 w h => refStacks_any a c l n h1 h2 h3 w h
  clear hl hc
  rcases chkV_01 c with h0 | h1
  · have HV : Hid (putV c = (cmdB c, 0)) := by show _ = _; unfold putV; rw [if_pos h0]
    rw [HV.out]
    rw [h0] at CK
    clear h0 HV
    go_enter Tryd.func10, Tryd.ntmps10
    go_upto_region 1 with fail
    apply wp_region_lit
    refine load_cmd rfl (.tmp 1) rfl w.heap.size rfl c HST.out ?_
    obtain ⟨m, hm⟩ : ∃ m, Hid ((fn c.kind).length = m) := ⟨_, rfl⟩
    have HFI : Hid ((fi c.kind).length = m) := by show _ = _; have := hm.out; unfold fn at this; rwa [List.length_map] at this
    have hm1 : m ≤ 11 := by rw [← HFI.out]; exact fi_len c.kind
    go_wp2_with (first
      | (go_at_call 15; (with_reducible refine (CK.out _).mono ?_); rintro e w1 ⟨rfl, hb1⟩; have HB1 := Lib.hid hb1; clear hb1; have HS1 := Lib.hid (HST.out.below HB1.out); have HW1 := Lib.hid (below2 (below_al (Below.refl w.heap.size w) _) HB1.out); obtain ⟨b0, -, -⟩ := HS1.out.three)
      | (go_at_call 30; (with_reducible refine (CU.out _ hk2 _).mono ?_); rintro e w2 ⟨rfl, hb2⟩; have HB2 := Lib.hid hb2; clear hb2; have HS2 := Lib.hid (HS1.out.below HB2.out); have HW2 := Lib.hid (below2 HW1.out HB2.out); obtain ⟨p0, -, -⟩ := HS2.out.three)
      | (go_at_call 22; (with_reducible refine (CF.out _).mono ?_); rintro e w3 ⟨a3, k3, rfl, HF3, HB3, -⟩; rw [hm.out]; have HS3 := Lib.hid (HS2.out.below HB3.out); have HW3 := Lib.hid (below2 HW2.out HB3.out)))
    have HS0 : Hid (bs (uintB c.kind) = bs (uintB c.kind ++ numB c ((fi c.kind).take 0))) := by show _ = _; simp [numB]
    have HSS : Hid (∀ k, k < m → uintB c.kind ++ numB c ((fi c.kind).take (k + 1)) = (uintB c.kind ++ numB c ((fi c.kind).take k)) ++ intB (c.num ((fi c.kind).getD k 0))) := fun k hk => by rw [numB_succ c (fi c.kind) k (by rw [HFI.out]; exact hk)]; simp
    have HSE : Hid (uintB c.kind ++ numB c ((fi c.kind).take m) = uintB c.kind ++ numB c (fi c.kind)) := by show _ = _; rw [← HFI.out, List.take_length]
    have HSL : Hid (∀ k, k ≤ m → (uintB c.kind ++ numB c ((fi c.kind).take k)).length ≤ 300) := fun k hk => by
      have h1 := uintB_len c.kind
      have h2 := numB_len c ((fi c.kind).take k)
      rw [List.length_take] at h2
      rw [List.length_append]
      omega
    go_loopw [4, 6] (fun s i wr => ∃ k : Nat, k ≤ m ∧ i = .int .i64 k ∧ s = .string (bs (uintB c.kind ++ numB c ((fi c.kind).take k))) ∧ Hid (Below w3.heap.size w3 wr)) (fun _ i _ => m - (intOf i).toNat)
    case atStart => exact ⟨0, by omega, rfl, by rw [← HS0.out], Below.refl _ _⟩
    case round =>
      obtain ⟨k, hk, rfl, rfl, hb⟩ := hrel
      by_cases hlt : k < m
      · obtain ⟨b2, off2, rfl, hbl2, hc2⟩ := (Strs.below HF3.out hb.out) k (by rw [hm.out]; exact hlt)
        obtain ⟨e1, hi19⟩ := fn_get c.kind k (by rw [HFI.out]; exact hlt)
        rw [e1] at hc2
        have HI := Lib.hid (HC.out.num _ hi19)
        have HG : Hid (getV c (nm ((fi c.kind).getD k 0)) = (c.num ((fi c.kind).getD k 0), true)) := by show _ = _; unfold getV; rw [place_nm hi19]
        have HX := Lib.hid (HSS.out k hlt)
        have hlen := HSL.out k hk
        clear e1
        have hlt1 : (k : Int) < (m : Int) := by omega
        have d1 : decide ((k : Int) < (m : Int)) = true := decide_eq_true hlt1
        have hk0 : (0 : Int) ≤ k := by omega
        generalize (fi c.kind).getD k 0 = I at *
        generalize uintB c.kind ++ numB c ((fi c.kind).take k) = S at *
        have q1 := bs_append S (intB (c.num I))
        have z1 := fits (A := S) (B := intB (c.num I)) (by omega) (by have := Pen.intB_len (c.num I); omega)
        clear hlen
        go_upto_region 8 with fail
        have hH0 : Stand wr.drew w.heap.size c ∧ wr.drew.cell? ⟨b2, off2 + k, none⟩ = some (.string (nm I)) := ⟨HS3.out.below (below_dN hb.out 1), hc2⟩
        have hbl' : b2 < wr.drew.heap.size := hbl2
        refine Ord.wp_region_U (fun W' => Stand W' w.heap.size c ∧ W'.cell? ⟨b2, off2 + k, none⟩ = some (.string (nm I))) [] (by kernel_rfl) ?_
        have hHeld := hH0
        refine Ord.wpAnyU_take (i := 0) (v := .agg c.val) rfl (by kernel_rfl) (by kernel_rfl) (by kernel_rfl) (by kernel_rfl) (by kernel_rfl) (by kernel_rfl) (by kernel_rfl) (fun _ _ _ h => h) (Or.inl ⟨by rfl, ?_⟩) hHeld ?_
        · exact fun W2 hS2 => run_load_cmd (.tmp 1) rfl rfl hS2.1
        try simp only [Act.put, List.setIfInBounds_toArray, List.set_cons_zero, List.set_cons_succ]
        refine Ord.wpAnyU_take (i := 1) (v := ?_) rfl (by kernel_rfl) (by kernel_rfl) (by kernel_rfl) (by kernel_rfl) (by kernel_rfl) (by kernel_rfl) (by kernel_rfl) (fun _ _ _ h => h) (Or.inl ⟨by rfl, ?_⟩) hHeld ?_
        rotate_left
        · intro w hSw; (try dsimp only at hSw); go_simp; (try with_reducible rfl)
        try simp only [Act.put, List.setIfInBounds_toArray, List.set_cons_zero, List.set_cons_succ]
        refine Ord.wpAnyU_take (i := 2) (v := ?_) rfl (by kernel_rfl) (by kernel_rfl) (by kernel_rfl) (by kernel_rfl) (by kernel_rfl) (by kernel_rfl) (by kernel_rfl) (fun _ _ _ h => h) (Or.inl ⟨by rfl, ?_⟩) hHeld ?_
        rotate_left
        · intro w hSw; (try dsimp only at hSw); go_simp; (try with_reducible rfl)
        try simp only [Act.put, List.setIfInBounds_toArray, List.set_cons_zero, List.set_cons_succ]
        refine Ord.wpAnyU_take (i := 3) (v := ?_) rfl (by kernel_rfl) (by kernel_rfl) (by kernel_rfl) (by kernel_rfl) (by kernel_rfl) (by kernel_rfl) (by kernel_rfl) (fun _ _ _ h => h) (Or.inl ⟨by rfl, ?_⟩) hHeld ?_
        rotate_left
        · intro w hSw; (try dsimp only at hSw); go_simp; (try with_reducible rfl)
        try simp only [Act.put, List.setIfInBounds_toArray, List.set_cons_zero, List.set_cons_succ]
        refine Ord.wpAnyU_take (i := 4) (v := ?_) rfl (by kernel_rfl) (by kernel_rfl) (by kernel_rfl) (by kernel_rfl) (by kernel_rfl) (by kernel_rfl) (by kernel_rfl) (fun _ _ _ h => h) (Or.inl ⟨by rfl, ?_⟩) hHeld ?_
        rotate_left
        · intro w hSw; (try dsimp only at hSw); go_simp; (try with_reducible rfl)
        try simp only [Act.put, List.setIfInBounds_toArray, List.set_cons_zero, List.set_cons_succ]
        refine Ord.wpAnyU_one (i := 5) (by kernel_rfl) rfl (fun K hK => ?_)
        go_simp
        go_wp2_with ((go_at_call 17; (with_reducible refine (CG.out (nm I) _).mono ?_); rintro e w4 ⟨rfl, hb4⟩; rw [HG.out]; have HB4 := Lib.hid hb4; clear hb4; have hs4 : _ ∧ _ := ⟨hH0.1.below HB4.out, (HB4.out.cell (p := ⟨b2, off2 + k, none⟩) hbl').trans hH0.2⟩))
        refine hK.out _ _ (fun _ => hs4) ?_
        clear hK K
        try simp only [Act.put, List.setIfInBounds_toArray, List.set_cons_zero, List.set_cons_succ]
        refine Ord.wpAnyU_one (i := 6) (by kernel_rfl) rfl (fun K hK => ?_)
        go_simp
        refine hK.out _ _ (fun _ => hs4) ?_
        clear hK K
        try simp only [Act.put, List.setIfInBounds_toArray, List.set_cons_zero, List.set_cons_succ]
        have hHeld := hs4
        refine Ord.wpAnyU_take (i := 7) (v := ?_) rfl (by kernel_rfl) (by kernel_rfl) (by kernel_rfl) (by kernel_rfl) (by kernel_rfl) (by kernel_rfl) (by kernel_rfl) (fun _ _ _ h => h) (Or.inl ⟨by rfl, ?_⟩) hHeld ?_
        rotate_left
        · intro w hSw; (try dsimp only at hSw); go_simp; (try with_reducible rfl)
        try simp only [Act.put, List.setIfInBounds_toArray, List.set_cons_zero, List.set_cons_succ]
        have hHeld := hs4
        refine Ord.wpAnyU_take (i := 8) (v := ?_) rfl (by kernel_rfl) (by kernel_rfl) (by kernel_rfl) (by kernel_rfl) (by kernel_rfl) (by kernel_rfl) (by kernel_rfl) (fun _ _ _ h => h) (Or.inl ⟨by rfl, ?_⟩) hHeld ?_
        rotate_left
        · intro w hSw; (try dsimp only at hSw); go_simp; (try with_reducible rfl)
        try simp only [Act.put, List.setIfInBounds_toArray, List.set_cons_zero, List.set_cons_succ]
        refine Ord.wpAnyU_one (i := 9) (by kernel_rfl) rfl (fun K hK => ?_)
        go_simp
        refine hK.out _ _ (fun _ => hs4) ?_
        clear hK K
        try simp only [Act.put, List.setIfInBounds_toArray, List.set_cons_zero, List.set_cons_succ]
        refine Ord.wpAnyU_one (i := 10) (by kernel_rfl) rfl (fun K hK => ?_)
        go_simp
        refine hK.out _ _ (fun _ => hs4) ?_
        clear hK K
        try simp only [Act.put, List.setIfInBounds_toArray, List.set_cons_zero, List.set_cons_succ]
        refine Ord.wpAnyU_done (by kernel_rfl) ?_ _
        go_wp2_with (go_at_call 31; (with_reducible refine (CI.out _ HI.out _).mono ?_); rintro e w5 ⟨rfl, HB5⟩)
        go_roundw
        case rel => exact ⟨k + 1, by omega, by go_num, by rw [HX.out], below2 (below_dN hb.out 1) (below2 HB4.out HB5)⟩
        case measure => simp [intOf]; omega
      · have hke : k = m := by omega
        have n1 : ¬ (k : Int) < (m : Int) := by omega
        have d1 : decide ((k : Int) < (m : Int)) = false := decide_eq_false n1
        subst hke
        have HWr := Lib.hid (HW3.out.trans (hb.out.mono HW3.out.size))
        have HSr := Lib.hid (HS3.out.below hb.out)
        have HLr := Lib.hid (HL.out.below HWr.out)
        obtain ⟨b0', b20, b21⟩ := HSr.out.three
        rw [HSE.out]
        have hlen := HSL.out k (Nat.le_refl _)
        rw [HSE.out] at hlen
        by_cases h14 : c.kind = 14
        · have d14 : (c.kind == 14) = true := beq_iff_eq.2 h14
          have HR : Hid (cmdB c = uintB c.kind ++ numB c (fi c.kind) ++ (stkB c.gives ++ stkB c.wants)) := by show _ = _; unfold cmdB; rw [if_pos h14]
          have hgl : (stkB c.gives).length ≤ 3000 := by have h1 := uintB_len c.gives.length; have h2 := stksB_len c.gives; have h3 := HFEW.out.1; unfold stkB; rw [List.length_append]; omega
          have hwl : (stkB c.wants).length ≤ 3000 := by have h1 := uintB_len c.wants.length; have h2 := stksB_len c.wants; have h3 := HFEW.out.2; unfold stkB; rw [List.length_append]; omega
          generalize uintB c.kind ++ numB c (fi c.kind) = P at *
          have q1 := bs_append P (stkB c.gives)
          have q2 := bs_append (P ++ stkB c.gives) (stkB c.wants)
          have z1 := fits (A := P) (B := stkB c.gives) (by omega) (by omega)
          have z2 := fits (A := P ++ stkB c.gives) (B := stkB c.wants) (by rw [List.length_append]; omega) (by omega)
          clear h14 hgl hwl hlen
          go_upto_region 11 with fail
          have hH0 : wr.drew.cell? ⟨w.heap.size, 20, none⟩ = some (.slice c.ga c.gives.length c.gc) ∧ wr.drew.cell? ⟨w.heap.size, 21, none⟩ = some (.slice c.wa c.wants.length c.wc) := ⟨b20, b21⟩
          have hbl' : w.heap.size < wr.drew.heap.size := World.rowIs.lt HSr.out
          have HLd : Hid (Lies wr.drew c) := HL.out.below (below_dN HWr.out 1)
          refine Ord.wp_region_U (fun W' => W'.cell? ⟨w.heap.size, 20, none⟩ = some (.slice c.ga c.gives.length c.gc) ∧ W'.cell? ⟨w.heap.size, 21, none⟩ = some (.slice c.wa c.wants.length c.wc)) [] (by kernel_rfl) ?_
          have hHeld := hH0
          refine Ord.wpAnyU_take (i := 0) (v := ?_) rfl (by kernel_rfl) (by kernel_rfl) (by kernel_rfl) (by kernel_rfl) (by kernel_rfl) (by kernel_rfl) (by kernel_rfl) (fun _ _ _ h => h) (Or.inl ⟨by rfl, ?_⟩) hHeld ?_
          rotate_left
          · intro w hSw; (try dsimp only at hSw); go_simp; (try with_reducible rfl)
          try simp only [Act.put, List.setIfInBounds_toArray, List.set_cons_zero, List.set_cons_succ]
          refine Ord.wpAnyU_take (i := 1) (v := ?_) rfl (by kernel_rfl) (by kernel_rfl) (by kernel_rfl) (by kernel_rfl) (by kernel_rfl) (by kernel_rfl) (by kernel_rfl) (fun _ _ _ h => h) (Or.inl ⟨by rfl, ?_⟩) hHeld ?_
          rotate_left
          · intro w hSw; (try dsimp only at hSw); go_simp; (try with_reducible rfl)
          try simp only [Act.put, List.setIfInBounds_toArray, List.set_cons_zero, List.set_cons_succ]
          refine Ord.wpAnyU_take (i := 2) (v := ?_) rfl (by kernel_rfl) (by kernel_rfl) (by kernel_rfl) (by kernel_rfl) (by kernel_rfl) (by kernel_rfl) (by kernel_rfl) (fun _ _ _ h => h) (Or.inl ⟨by rfl, ?_⟩) hHeld ?_
          rotate_left
          · intro w hSw; (try dsimp only at hSw); go_simp; (try with_reducible rfl)
          try simp only [Act.put, List.setIfInBounds_toArray, List.set_cons_zero, List.set_cons_succ]
          refine Ord.wpAnyU_take (i := 5) (v := ?_) rfl (by kernel_rfl) (by kernel_rfl) (by kernel_rfl) (by kernel_rfl) (by kernel_rfl) (by kernel_rfl) (by kernel_rfl) (fun _ _ _ h => h) (Or.inl ⟨by rfl, ?_⟩) hHeld ?_
          rotate_left
          · intro w hSw; (try dsimp only at hSw); go_simp; (try with_reducible rfl)
          try simp only [Act.put, List.setIfInBounds_toArray, List.set_cons_zero, List.set_cons_succ]
          refine Ord.wpAnyU_take (i := 6) (v := ?_) rfl (by kernel_rfl) (by kernel_rfl) (by kernel_rfl) (by kernel_rfl) (by kernel_rfl) (by kernel_rfl) (by kernel_rfl) (fun _ _ _ h => h) (Or.inl ⟨by rfl, ?_⟩) hHeld ?_
          rotate_left
          · intro w hSw; (try dsimp only at hSw); go_simp; (try with_reducible rfl)
          try simp only [Act.put, List.setIfInBounds_toArray, List.set_cons_zero, List.set_cons_succ]
          refine Ord.wpAnyU_one (i := 3) (by kernel_rfl) rfl (fun K hK => ?_)
          go_simp
          go_wp2_with ((go_at_call 32; (with_reducible refine (CS.out _ _ c.gives _ rfl HFEW.out.1 HC.out.gives _ HLd.out.g).mono ?_); rintro e w5 ⟨rfl, hb5⟩; have HB5 := Lib.hid hb5; clear hb5; have hs5 : _ ∧ _ := ⟨(HB5.out.cell (p := ⟨w.heap.size, 20, none⟩) hbl').trans hH0.1, (HB5.out.cell (p := ⟨w.heap.size, 21, none⟩) hbl').trans hH0.2⟩; have hl5 : w.heap.size < w5.heap.size := Nat.lt_of_lt_of_le hbl' HB5.out.size))
          refine hK.out _ _ (fun _ => hs5) ?_
          clear hK K
          try simp only [Act.put, List.setIfInBounds_toArray, List.set_cons_zero, List.set_cons_succ]
          have hHeld := hs5
          refine Ord.wpAnyU_take (i := 4) (v := ?_) rfl (by kernel_rfl) (by kernel_rfl) (by kernel_rfl) (by kernel_rfl) (by kernel_rfl) (by kernel_rfl) (by kernel_rfl) (fun _ _ _ h => h) (Or.inl ⟨by rfl, ?_⟩) hHeld ?_
          rotate_left
          · intro w hSw; (try dsimp only at hSw); go_simp; (try with_reducible rfl)
          try simp only [Act.put, List.setIfInBounds_toArray, List.set_cons_zero, List.set_cons_succ]
          refine Ord.wpAnyU_one (i := 7) (by kernel_rfl) rfl (fun K hK => ?_)
          go_simp
          go_wp2_with ((go_at_call 32; (with_reducible refine (CS.out _ _ c.wants _ rfl HFEW.out.2 HC.out.wants _ (Stks.below HLd.out.w HB5.out)).mono ?_); rintro e w6 ⟨rfl, hb6⟩; have HB6 := Lib.hid hb6; clear hb6; have hs6 : _ ∧ _ := ⟨(HB6.out.cell (p := ⟨w.heap.size, 20, none⟩) hl5).trans hs5.1, (HB6.out.cell (p := ⟨w.heap.size, 21, none⟩) hl5).trans hs5.2⟩; have hl6 : w.heap.size < w6.heap.size := Nat.lt_of_lt_of_le hl5 HB6.out.size))
          refine hK.out _ _ (fun _ => hs6) ?_
          clear hK K
          try simp only [Act.put, List.setIfInBounds_toArray, List.set_cons_zero, List.set_cons_succ]
          refine Ord.wpAnyU_one (i := 8) (by kernel_rfl) rfl (fun K hK => ?_)
          go_simp
          refine hK.out _ _ (fun _ => hs6) ?_
          clear hK K
          try simp only [Act.put, List.setIfInBounds_toArray, List.set_cons_zero, List.set_cons_succ]
          refine Ord.wpAnyU_one (i := 9) (by kernel_rfl) rfl (fun K hK => ?_)
          go_simp
          refine hK.out _ _ (fun _ => hs6) ?_
          clear hK K
          try simp only [Act.put, List.setIfInBounds_toArray, List.set_cons_zero, List.set_cons_succ]
          refine Ord.wpAnyU_done (by kernel_rfl) ?_ _
          go_wp2
          go_ret2
          exact ⟨by rw [HR.out, ← List.append_assoc]; rfl, below2 (below_dN HWr.out 1) (below2 HB5.out HB6.out)⟩
        · have d14 : (c.kind == 14) = false := beq_eq_false_iff_ne.2 h14
          have HR : Hid (cmdB c = uintB c.kind ++ numB c (fi c.kind)) := by show _ = _; unfold cmdB; rw [if_neg h14, List.append_nil]
          go_wp2
          go_ret2
          exact ⟨by rw [HR.out]; rfl, HWr.out⟩
  · have HV : Hid (putV c = ([], 1)) := by show _ = _; unfold putV; rw [if_neg (by rw [h1]; decide)]
    rw [HV.out]
    rw [h1] at CK
    clear h1 HV
    go_enter Tryd.func10, Tryd.ntmps10
    go_upto_region 1 with fail
    apply wp_region_lit
    refine load_cmd rfl (.tmp 1) rfl w.heap.size rfl c HST.out ?_
    go_wp2_with (go_at_call 15; (with_reducible refine (CK.out _).mono ?_); rintro e w1 ⟨rfl, hb1⟩; have HB1 := Lib.hid hb1; clear hb1)
    all_goals go_ret2
    all_goals exact ⟨rfl, below2 (below_al (Below.refl w.heap.size w) _) HB1.out⟩
end Cmd
end Go.Proofs.YtbjlkeneeodghaaDoor
