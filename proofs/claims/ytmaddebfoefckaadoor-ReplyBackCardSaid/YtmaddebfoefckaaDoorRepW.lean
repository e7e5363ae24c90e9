/- Replies put as bytes: the walks. -/
import Derived.Test.YtmaddebfoefckaaDoorRepN
set_option linter.unusedSimpArgs false
set_option linter.unusedVariables false
namespace Go.Proofs.YtmaddebfoefckaaDoor
open Go.RowKit Go.Great
namespace Rep
open Pen (bs bs_append uintB intB I64 intS uintS doneS)
open Go.Lib (decDigits itoa)
theorem arr4_0 (a b c d : Int) (w : World) : Sem.run Tryd.prog (Instr.index 36 (.agg #[.int .i64 a, .int .i64 b, .int .i64 c, .int .i64 d]) (.int .i64 0)) w = Result.ok (.int .i64 a) w := by kernel_rfl
theorem arr4_1 (a b c d : Int) (w : World) : Sem.run Tryd.prog (Instr.index 36 (.agg #[.int .i64 a, .int .i64 b, .int .i64 c, .int .i64 d]) (.int .i64 1)) w = Result.ok (.int .i64 b) w := by kernel_rfl
theorem arr4_2 (a b c d : Int) (w : World) : Sem.run Tryd.prog (Instr.index 36 (.agg #[.int .i64 a, .int .i64 b, .int .i64 c, .int .i64 d]) (.int .i64 2)) w = Result.ok (.int .i64 c) w := by kernel_rfl
theorem arr4_3 (a b c d : Int) (w : World) : Sem.run Tryd.prog (Instr.index 36 (.agg #[.int .i64 a, .int .i64 b, .int .i64 c, .int .i64 d]) (.int .i64 3)) w = Result.ok (.int .i64 d) w := by kernel_rfl
theorem rep_len (r : RepIn) : (uintB r.err).length ≤ 10 ∧ (intB r.id).length ≤ 10 ∧ (intB r.n).length ≤ 10 ∧ (intB r.st).length ≤ 10 ∧ (intB r.ti).length ≤ 10 := ⟨Pen.uintB_len _, Pen.intB_len _, Pen.intB_len _, Pen.intB_len _, Pen.intB_len _⟩
set_option maxRecDepth 100000 in
set_option maxHeartbeats 2000000 in
theorem put_any (r : RepIn) (hr : Rok r) (w : World) : Calls Tryd.prog 6 #[.agg r.val] w fun x w' => x = .returned (.tuple #[.string (bs (putV r).1), .int .i64 (putV r).2]) ∧ Below w.heap.size w w' := by
  have HST := Lib.hid (rp_new (w := w) rfl r)
  obtain ⟨v0, v1, v2, v3, v4⟩ := val_at r
  have CU : Hid (∀ W, Calls Tryd.prog 14 #[.int .i64 r.err] W fun e w' => e = .returned (.string (bs (uintB r.err))) ∧ Below W.heap.size W w') := fun W => Pen.uint_any r.err hr.1.2 W
  have CI : Hid (∀ x, I64 x → ∀ W, Calls Tryd.prog 16 #[.int .i64 x] W fun e w' => e = .returned (.string (bs (intB x))) ∧ Below W.heap.size W w') := fun x hx W => Pen.int_any x hx W
  have CB : Hid (∀ W, Calls Tryd.prog 13 #[.agg r.val] W fun x w' => x = .returned (.bool (decide (May r))) ∧ Below W.heap.size W w') := fun W => is_any r W
  obtain ⟨-, r1, r2, r3, r4⟩ := hr
  obtain ⟨l0, l1, l2, l3, l4⟩ := rep_len r
  obtain ⟨S0, hS0⟩ : ∃ S, Hid (uintB r.err = S) := ⟨_, rfl⟩
  rw [hS0.out] at CU l0
  obtain ⟨S1, hS1⟩ : ∃ S, Hid (S0 ++ intB r.id = S) := ⟨_, rfl⟩
  obtain ⟨S2, hS2⟩ : ∃ S, Hid (S1 ++ intB r.n = S) := ⟨_, rfl⟩
  obtain ⟨S3, hS3⟩ : ∃ S, Hid (S2 ++ intB r.st = S) := ⟨_, rfl⟩
  obtain ⟨S4, hS4⟩ : ∃ S, Hid (S3 ++ intB r.ti = S) := ⟨_, rfl⟩
  have m1 : S1.length ≤ 20 := by rw [← hS1.out, List.length_append]; omega
  have m2 : S2.length ≤ 30 := by rw [← hS2.out, List.length_append]; omega
  have m3 : S3.length ≤ 40 := by rw [← hS3.out, List.length_append]; omega
  have z1 := fits (A := S0) (B := intB r.id) (by omega) (by omega)
  have z2 := fits (A := S1) (B := intB r.n) (by omega) (by omega)
  have z3 := fits (A := S2) (B := intB r.st) (by omega) (by omega)
  have z4 := fits (A := S3) (B := intB r.ti) (by omega) (by omega)
  have q1 : bs S0 ++ bs (intB r.id) = bs S1 := by rw [bs_append, hS1.out]
  have q2 : bs S1 ++ bs (intB r.n) = bs S2 := by rw [bs_append, hS2.out]
  have q3 : bs S2 ++ bs (intB r.st) = bs S3 := by rw [bs_append, hS3.out]
  have q4 : bs S3 ++ bs (intB r.ti) = bs S4 := by rw [bs_append, hS4.out]
  have HB0 : Hid (May r → r.err = 0 → putV r = (S4, 0)) := fun hm hz => by
    rw [may_put hm, ← hS4.out, ← hS3.out, ← hS2.out, ← hS1.out, ← hS0.out]
    unfold repB numsB
    rw [if_pos hz]
    simp
  have HB1 : Hid (May r → ¬ r.err = 0 → putV r = (S0, 0)) := fun hm hz => by
    rw [may_put hm, ← hS0.out]
    unfold repB
    rw [if_neg hz, List.append_nil]
  have HB2 : Hid (¬ May r → putV r = ([], 1)) := fun hm => may_not hm
  clear hS0 hS1 hS2 hS3 hS4 l0 l1 l2 l3 l4 m1 m2 m3
  have CN : Hid (∀ W, Calls Tryd.prog 15 #[.agg r.val] W fun x w' => x = .returned (.agg #[.int .i64 r.id, .int .i64 r.n, .int .i64 r.st, .int .i64 r.ti]) ∧ Below W.heap.size W w') := fun W => numbers_any r W
  by_cases hm : May r
  · have dm : decide (May r) = true := decide_eq_true hm
    rw [dm] at CB
    by_cases hz : r.err = 0
    · have dz : (r.err == 0) = true := beq_iff_eq.2 hz
      rw [HB0.out hm hz]
      rw [hz] at CU
      clear HB0 HB1 HB2 dm hm
      go_enter Tryd.func6, Tryd.ntmps6
      go_upto_region 1 with fail
      apply wp_region_lit
      refine load_rep rfl (.tmp 1) rfl w.heap.size rfl r HST.out ?_
      go_upto_region 5 with (first | (go_at_call 13; (with_reducible refine (CB.out _).mono ?_); rintro e w1 ⟨rfl, hb1⟩; have HS1 := Lib.hid (HST.out.below hb1); obtain ⟨g0, -⟩ := HS1.out.five; have HW1 := Lib.hid (below2 (below_al (Below.refl w.heap.size w) _) hb1); clear hb1) | (go_at_call 14; (with_reducible refine (CU.out _).mono ?_); rintro e w2 ⟨rfl, hb2⟩; have HS2 := Lib.hid (HS1.out.below hb2); obtain ⟨k0, k1, k2, k3, k4⟩ := HS2.out.five; have HW2 := Lib.hid (below2 HW1.out hb2); clear hb2))
      apply wp_region_lit
      refine load_rep rfl (.tmp 1) rfl w.heap.size rfl r HS2.out ?_
      go_wp2_with (go_at_call 15; (with_reducible refine (CN.out _).mono ?_); rintro e w3 ⟨rfl, hb3⟩; have HW3 := Lib.hid (below2 HW2.out hb3); clear hb3)
      go_loopw [4, 18] (fun s i wr => ((i = .int .i64 0 ∧ s = .string (bs S0)) ∨ (i = .int .i64 1 ∧ s = .string (bs S1)) ∨ (i = .int .i64 2 ∧ s = .string (bs S2)) ∨ (i = .int .i64 3 ∧ s = .string (bs S3)) ∨ (i = .int .i64 4 ∧ s = .string (bs S4))) ∧ Hid (Below w.heap.size w wr)) (fun _ i _ => 4 - (intOf i).toNat)
      case atStart => exact ⟨.inl ⟨rfl, rfl⟩, HW3⟩
      case round =>
        obtain ⟨hk, HWr⟩ := hrel
        rcases hk with ⟨rfl, rfl⟩ | hk
        · have ix := arr4_0 r.id r.n r.st r.ti wr
          go_wp2_with (go_at_call 16; (with_reducible refine (CI.out _ r1 _).mono ?_); rintro e w4 ⟨rfl, hb4⟩; have HW4 := Lib.hid (below2 HWr.out hb4); clear hb4)
          go_roundw
          case rel => exact ⟨.inr (.inl ⟨rfl, rfl⟩), HW4⟩
          case measure => simp [intOf]
        rcases hk with ⟨rfl, rfl⟩ | hk
        · have ix := arr4_1 r.id r.n r.st r.ti wr
          go_wp2_with (go_at_call 16; (with_reducible refine (CI.out _ r2 _).mono ?_); rintro e w4 ⟨rfl, hb4⟩; have HW4 := Lib.hid (below2 HWr.out hb4); clear hb4)
          go_roundw
          case rel => exact ⟨.inr (.inr (.inl ⟨rfl, rfl⟩)), HW4⟩
          case measure => simp [intOf]
        rcases hk with ⟨rfl, rfl⟩ | hk
        · have ix := arr4_2 r.id r.n r.st r.ti wr
          go_wp2_with (go_at_call 16; (with_reducible refine (CI.out _ r3 _).mono ?_); rintro e w4 ⟨rfl, hb4⟩; have HW4 := Lib.hid (below2 HWr.out hb4); clear hb4)
          go_roundw
          case rel => exact ⟨.inr (.inr (.inr (.inl ⟨rfl, rfl⟩))), HW4⟩
          case measure => simp [intOf]
        rcases hk with ⟨rfl, rfl⟩ | hk
        · have ix := arr4_3 r.id r.n r.st r.ti wr
          go_wp2_with (go_at_call 16; (with_reducible refine (CI.out _ r4 _).mono ?_); rintro e w4 ⟨rfl, hb4⟩; have HW4 := Lib.hid (below2 HWr.out hb4); clear hb4)
          go_roundw
          case rel => exact ⟨.inr (.inr (.inr (.inr (⟨rfl, rfl⟩)))), HW4⟩
          case measure => simp [intOf]
        obtain ⟨rfl, rfl⟩ := hk
        go_wp2
        go_ret2
        exact ⟨rfl, HWr.out⟩
    · have dz : (r.err == 0) = false := beq_eq_false_iff_ne.2 hz
      rw [HB1.out hm hz]
      clear HB0 HB1 HB2 dm hm
      go_enter Tryd.func6, Tryd.ntmps6
      go_upto_region 1 with fail
      apply wp_region_lit
      refine load_rep rfl (.tmp 1) rfl w.heap.size rfl r HST.out ?_
      go_wp2_with (first | (go_at_call 13; (with_reducible refine (CB.out _).mono ?_); rintro e w1 ⟨rfl, hb1⟩; have HS1 := Lib.hid (HST.out.below hb1); obtain ⟨g0, -⟩ := HS1.out.five; have HW1 := Lib.hid (below2 (below_al (Below.refl w.heap.size w) _) hb1); clear hb1) | (go_at_call 14; (with_reducible refine (CU.out _).mono ?_); rintro e w2 ⟨rfl, hb2⟩; have HS2 := Lib.hid (HS1.out.below hb2); obtain ⟨k0, k1, k2, k3, k4⟩ := HS2.out.five; have HW2 := Lib.hid (below2 HW1.out hb2); clear hb2))
      go_ret2
      exact ⟨rfl, HW2.out⟩
  · have dm : decide (May r) = false := decide_eq_false hm
    rw [dm] at CB
    rw [HB2.out hm]
    clear HB0 HB1 HB2 dm hm
    go_enter Tryd.func6, Tryd.ntmps6
    go_upto_region 1 with fail
    apply wp_region_lit
    refine load_rep rfl (.tmp 1) rfl w.heap.size rfl r HST.out ?_
    go_wp2_with (go_at_call 13; (with_reducible refine (CB.out _).mono ?_); rintro e w1 ⟨rfl, hb1⟩; have HS1 := Lib.hid (HST.out.below hb1); obtain ⟨g0, -⟩ := HS1.out.five; have HW1 := Lib.hid (below2 (below_al (Below.refl w.heap.size w) _) hb1); clear hb1)
    go_ret2
    exact ⟨rfl, HW1.out⟩
set_option maxRecDepth 100000 in
set_option maxHeartbeats 2000000 in
theorem refPut_any (r : RepIn) (hr : Rok r) (w : World) : Calls Tryd.prog 7 #[.agg r.val] w fun x w' => x = .returned (.tuple #[.string (bs (putV r).1), .int .i64 (putV r).2]) ∧ Below w.heap.size w w' := by
  have HST := Lib.hid (rp_new (w := w) rfl r)
  obtain ⟨v0, v1, v2, v3, v4⟩ := val_at r
  have CU : Hid (∀ W, Calls Tryd.prog 18 #[.int .i64 r.err] W fun e w' => e = .returned (.string (bs (uintB r.err))) ∧ Below W.heap.size W w') := fun W => Pen.refUint_any r.err hr.1.2 W
  have CI : Hid (∀ x, I64 x → ∀ W, Calls Tryd.prog 19 #[.int .i64 x] W fun e w' => e = .returned (.string (bs (intB x))) ∧ Below W.heap.size W w') := fun x hx W => Pen.refInt_any x hx W
  have CB : Hid (∀ W, Calls Tryd.prog 17 #[.agg r.val] W fun x w' => x = .returned (.bool (decide (May r))) ∧ Below W.heap.size W w') := fun W => refMay_any r W
  obtain ⟨-, r1, r2, r3, r4⟩ := hr
  obtain ⟨l0, l1, l2, l3, l4⟩ := rep_len r
  obtain ⟨S0, hS0⟩ : ∃ S, Hid (uintB r.err = S) := ⟨_, rfl⟩
  rw [hS0.out] at CU l0
  obtain ⟨S1, hS1⟩ : ∃ S, Hid (S0 ++ intB r.id = S) := ⟨_, rfl⟩
  obtain ⟨S2, hS2⟩ : ∃ S, Hid (S1 ++ intB r.n = S) := ⟨_, rfl⟩
  obtain ⟨S3, hS3⟩ : ∃ S, Hid (S2 ++ intB r.st = S) := ⟨_, rfl⟩
  obtain ⟨S4, hS4⟩ : ∃ S, Hid (S3 ++ intB r.ti = S) := ⟨_, rfl⟩
  have m1 : S1.length ≤ 20 := by rw [← hS1.out, List.length_append]; omega
  have m2 : S2.length ≤ 30 := by rw [← hS2.out, List.length_append]; omega
  have m3 : S3.length ≤ 40 := by rw [← hS3.out, List.length_append]; omega
  have z1 := fits (A := S0) (B := intB r.id) (by omega) (by omega)
  have z2 := fits (A := S1) (B := intB r.n) (by omega) (by omega)
  have z3 := fits (A := S2) (B := intB r.st) (by omega) (by omega)
  have z4 := fits (A := S3) (B := intB r.ti) (by omega) (by omega)
  have q1 : bs S0 ++ bs (intB r.id) = bs S1 := by rw [bs_append, hS1.out]
  have q2 : bs S1 ++ bs (intB r.n) = bs S2 := by rw [bs_append, hS2.out]
  have q3 : bs S2 ++ bs (intB r.st) = bs S3 := by rw [bs_append, hS3.out]
  have q4 : bs S3 ++ bs (intB r.ti) = bs S4 := by rw [bs_append, hS4.out]
  have HB0 : Hid (May r → r.err = 0 → putV r = (S4, 0)) := fun hm hz => by
    rw [may_put hm, ← hS4.out, ← hS3.out, ← hS2.out, ← hS1.out, ← hS0.out]
    unfold repB numsB
    rw [if_pos hz]
    simp
  have HB1 : Hid (May r → ¬ r.err = 0 → putV r = (S0, 0)) := fun hm hz => by
    rw [may_put hm, ← hS0.out]
    unfold repB
    rw [if_neg hz, List.append_nil]
  have HB2 : Hid (¬ May r → putV r = ([], 1)) := fun hm => may_not hm
  clear hS0 hS1 hS2 hS3 hS4 l0 l1 l2 l3 l4 m1 m2 m3
  by_cases hm : May r
  · have dm : decide (May r) = true := decide_eq_true hm
    rw [dm] at CB
    by_cases hz : r.err = 0
    · have dz : (r.err == 0) = true := beq_iff_eq.2 hz
      rw [HB0.out hm hz]
      rw [hz] at CU
      clear HB0 HB1 HB2 dm hm
      go_enter Tryd.func7, Tryd.ntmps7
      go_upto_region 1 with fail
      apply wp_region_lit
      refine load_rep rfl (.tmp 1) rfl w.heap.size rfl r HST.out ?_
      go_upto_region 5 with (first | (go_at_call 17; (with_reducible refine (CB.out _).mono ?_); rintro e w1 ⟨rfl, hb1⟩; have HS1 := Lib.hid (HST.out.below hb1); obtain ⟨g0, -⟩ := HS1.out.five; have HW1 := Lib.hid (below2 (below_al (Below.refl w.heap.size w) _) hb1); clear hb1) | (go_at_call 18; (with_reducible refine (CU.out _).mono ?_); rintro e w2 ⟨rfl, hb2⟩; have HS2 := Lib.hid (HS1.out.below hb2); obtain ⟨k0, k1, k2, k3, k4⟩ := HS2.out.five; have HW2 := Lib.hid (below2 HW1.out hb2); clear hb2))
      have hHeld : Rp w2.drew w.heap.size r := HS2.out.drew
      have HW3 : Hid (Below w.heap.size w w2.drew) := below_dN HW2.out 1
      refine Ord.wp_region_U (fun W' => Rp W' w.heap.size r) [] (by kernel_rfl) ?_
      refine take_at (i := 0) (v := ?_) 14 rfl rfl (by kernel_rfl) (by kernel_rfl) (by kernel_rfl) (by kernel_rfl) (by kernel_rfl) (by kernel_rfl) (by kernel_rfl) (fun _ _ _ h => h) (Or.inl ⟨by kernel_rfl, ?_⟩) hHeld ?_
      rotate_left
      · intro w hSw; (try dsimp only at hSw); (try obtain ⟨f0, f1, f2, f3, f4⟩ := Rp.five hSw); go_simp; (try with_reducible rfl)
      try simp only [Act.put, List.setIfInBounds_toArray, List.set_cons_zero, List.set_cons_succ]
      refine take_at (i := 1) (v := ?_) 15 rfl rfl (by kernel_rfl) (by kernel_rfl) (by kernel_rfl) (by kernel_rfl) (by kernel_rfl) (by kernel_rfl) (by kernel_rfl) (fun _ _ _ h => h) (Or.inl ⟨by kernel_rfl, ?_⟩) hHeld ?_
      rotate_left
      · intro w hSw; (try dsimp only at hSw); (try obtain ⟨f0, f1, f2, f3, f4⟩ := Rp.five hSw); go_simp; (try with_reducible rfl)
      try simp only [Act.put, List.setIfInBounds_toArray, List.set_cons_zero, List.set_cons_succ]
      refine take_at (i := 2) (v := ?_) 16 rfl rfl (by kernel_rfl) (by kernel_rfl) (by kernel_rfl) (by kernel_rfl) (by kernel_rfl) (by kernel_rfl) (by kernel_rfl) (fun _ _ _ h => h) (Or.inl ⟨by kernel_rfl, ?_⟩) hHeld ?_
      rotate_left
      · intro w hSw; (try dsimp only at hSw); (try obtain ⟨f0, f1, f2, f3, f4⟩ := Rp.five hSw); go_simp; (try with_reducible rfl)
      try simp only [Act.put, List.setIfInBounds_toArray, List.set_cons_zero, List.set_cons_succ]
      refine take_at (i := 5) (v := ?_) 19 rfl rfl (by kernel_rfl) (by kernel_rfl) (by kernel_rfl) (by kernel_rfl) (by kernel_rfl) (by kernel_rfl) (by kernel_rfl) (fun _ _ _ h => h) (Or.inl ⟨by kernel_rfl, ?_⟩) hHeld ?_
      rotate_left
      · intro w hSw; (try dsimp only at hSw); (try obtain ⟨f0, f1, f2, f3, f4⟩ := Rp.five hSw); go_simp; (try with_reducible rfl)
      try simp only [Act.put, List.setIfInBounds_toArray, List.set_cons_zero, List.set_cons_succ]
      refine take_at (i := 6) (v := ?_) 20 rfl rfl (by kernel_rfl) (by kernel_rfl) (by kernel_rfl) (by kernel_rfl) (by kernel_rfl) (by kernel_rfl) (by kernel_rfl) (fun _ _ _ h => h) (Or.inl ⟨by kernel_rfl, ?_⟩) hHeld ?_
      rotate_left
      · intro w hSw; (try dsimp only at hSw); (try obtain ⟨f0, f1, f2, f3, f4⟩ := Rp.five hSw); go_simp; (try with_reducible rfl)
      try simp only [Act.put, List.setIfInBounds_toArray, List.set_cons_zero, List.set_cons_succ]
      refine take_at (i := 9) (v := ?_) 23 rfl rfl (by kernel_rfl) (by kernel_rfl) (by kernel_rfl) (by kernel_rfl) (by kernel_rfl) (by kernel_rfl) (by kernel_rfl) (fun _ _ _ h => h) (Or.inl ⟨by kernel_rfl, ?_⟩) hHeld ?_
      rotate_left
      · intro w hSw; (try dsimp only at hSw); (try obtain ⟨f0, f1, f2, f3, f4⟩ := Rp.five hSw); go_simp; (try with_reducible rfl)
      try simp only [Act.put, List.setIfInBounds_toArray, List.set_cons_zero, List.set_cons_succ]
      refine take_at (i := 10) (v := ?_) 24 rfl rfl (by kernel_rfl) (by kernel_rfl) (by kernel_rfl) (by kernel_rfl) (by kernel_rfl) (by kernel_rfl) (by kernel_rfl) (fun _ _ _ h => h) (Or.inl ⟨by kernel_rfl, ?_⟩) hHeld ?_
      rotate_left
      · intro w hSw; (try dsimp only at hSw); (try obtain ⟨f0, f1, f2, f3, f4⟩ := Rp.five hSw); go_simp; (try with_reducible rfl)
      try simp only [Act.put, List.setIfInBounds_toArray, List.set_cons_zero, List.set_cons_succ]
      refine take_at (i := 13) (v := ?_) 27 rfl rfl (by kernel_rfl) (by kernel_rfl) (by kernel_rfl) (by kernel_rfl) (by kernel_rfl) (by kernel_rfl) (by kernel_rfl) (fun _ _ _ h => h) (Or.inl ⟨by kernel_rfl, ?_⟩) hHeld ?_
      rotate_left
      · intro w hSw; (try dsimp only at hSw); (try obtain ⟨f0, f1, f2, f3, f4⟩ := Rp.five hSw); go_simp; (try with_reducible rfl)
      try simp only [Act.put, List.setIfInBounds_toArray, List.set_cons_zero, List.set_cons_succ]
      refine take_at (i := 14) (v := ?_) 28 rfl rfl (by kernel_rfl) (by kernel_rfl) (by kernel_rfl) (by kernel_rfl) (by kernel_rfl) (by kernel_rfl) (by kernel_rfl) (fun _ _ _ h => h) (Or.inl ⟨by kernel_rfl, ?_⟩) hHeld ?_
      rotate_left
      · intro w hSw; (try dsimp only at hSw); (try obtain ⟨f0, f1, f2, f3, f4⟩ := Rp.five hSw); go_simp; (try with_reducible rfl)
      try simp only [Act.put, List.setIfInBounds_toArray, List.set_cons_zero, List.set_cons_succ]
      refine Ord.wpAnyU_one (i := 3) (by kernel_rfl) rfl (fun K hK => ?_)
      go_simp
      go_wp2_with (go_at_call 19; (with_reducible refine (CI.out _ r1 _).mono ?_); rintro e w4 ⟨rfl, hb4⟩; have hs4 := Rp.below hHeld hb4; have HW4 := Lib.hid (below2 HW3.out hb4); clear hb4)
      refine hK.out _ _ (fun _ => hs4) ?_
      clear hK K
      try simp only [Act.put, List.setIfInBounds_toArray, List.set_cons_zero, List.set_cons_succ]
      clear hHeld
      have hHeld := hs4
      refine take_at (i := 4) (v := ?_) 18 rfl rfl (by kernel_rfl) (by kernel_rfl) (by kernel_rfl) (by kernel_rfl) (by kernel_rfl) (by kernel_rfl) (by kernel_rfl) (fun _ _ _ h => h) (Or.inl ⟨by kernel_rfl, ?_⟩) hHeld ?_
      rotate_left
      · intro w hSw; (try dsimp only at hSw); (try obtain ⟨f0, f1, f2, f3, f4⟩ := Rp.five hSw); go_simp; (try with_reducible rfl)
      try simp only [Act.put, List.setIfInBounds_toArray, List.set_cons_zero, List.set_cons_succ]
      refine Ord.wpAnyU_one (i := 7) (by kernel_rfl) rfl (fun K hK => ?_)
      go_simp
      go_wp2_with (go_at_call 19; (with_reducible refine (CI.out _ r2 _).mono ?_); rintro e w5 ⟨rfl, hb5⟩; have hs5 := Rp.below hHeld hb5; have HW5 := Lib.hid (below2 HW4.out hb5); clear hb5)
      refine hK.out _ _ (fun _ => hs5) ?_
      clear hK K
      try simp only [Act.put, List.setIfInBounds_toArray, List.set_cons_zero, List.set_cons_succ]
      clear hHeld
      have hHeld := hs5
      refine take_at (i := 8) (v := ?_) 22 rfl rfl (by kernel_rfl) (by kernel_rfl) (by kernel_rfl) (by kernel_rfl) (by kernel_rfl) (by kernel_rfl) (by kernel_rfl) (fun _ _ _ h => h) (Or.inl ⟨by kernel_rfl, ?_⟩) hHeld ?_
      rotate_left
      · intro w hSw; (try dsimp only at hSw); (try obtain ⟨f0, f1, f2, f3, f4⟩ := Rp.five hSw); go_simp; (try with_reducible rfl)
      try simp only [Act.put, List.setIfInBounds_toArray, List.set_cons_zero, List.set_cons_succ]
      refine Ord.wpAnyU_one (i := 11) (by kernel_rfl) rfl (fun K hK => ?_)
      go_simp
      go_wp2_with (go_at_call 19; (with_reducible refine (CI.out _ r3 _).mono ?_); rintro e w6 ⟨rfl, hb6⟩; have hs6 := Rp.below hHeld hb6; have HW6 := Lib.hid (below2 HW5.out hb6); clear hb6)
      refine hK.out _ _ (fun _ => hs6) ?_
      clear hK K
      try simp only [Act.put, List.setIfInBounds_toArray, List.set_cons_zero, List.set_cons_succ]
      clear hHeld
      have hHeld := hs6
      refine take_at (i := 12) (v := ?_) 26 rfl rfl (by kernel_rfl) (by kernel_rfl) (by kernel_rfl) (by kernel_rfl) (by kernel_rfl) (by kernel_rfl) (by kernel_rfl) (fun _ _ _ h => h) (Or.inl ⟨by kernel_rfl, ?_⟩) hHeld ?_
      rotate_left
      · intro w hSw; (try dsimp only at hSw); (try obtain ⟨f0, f1, f2, f3, f4⟩ := Rp.five hSw); go_simp; (try with_reducible rfl)
      try simp only [Act.put, List.setIfInBounds_toArray, List.set_cons_zero, List.set_cons_succ]
      refine Ord.wpAnyU_one (i := 15) (by kernel_rfl) rfl (fun K hK => ?_)
      go_simp
      go_wp2_with (go_at_call 19; (with_reducible refine (CI.out _ r4 _).mono ?_); rintro e w7 ⟨rfl, hb7⟩; have hs7 := Rp.below hHeld hb7; have HW7 := Lib.hid (below2 HW6.out hb7); clear hb7)
      refine hK.out _ _ (fun _ => hs7) ?_
      clear hK K
      try simp only [Act.put, List.setIfInBounds_toArray, List.set_cons_zero, List.set_cons_succ]
      clear hHeld
      have hHeld := hs7
      refine take_at (i := 16) (v := ?_) 30 rfl rfl (by kernel_rfl) (by kernel_rfl) (by kernel_rfl) (by kernel_rfl) (by kernel_rfl) (by kernel_rfl) (by kernel_rfl) (fun _ _ _ h => h) (Or.inl ⟨by kernel_rfl, ?_⟩) hHeld ?_
      rotate_left
      · intro w hSw; (try dsimp only at hSw); (try obtain ⟨f0, f1, f2, f3, f4⟩ := Rp.five hSw); go_simp; (try with_reducible rfl)
      try simp only [Act.put, List.setIfInBounds_toArray, List.set_cons_zero, List.set_cons_succ]
      refine Ord.wpAnyU_one (i := 17) (by kernel_rfl) rfl (fun K hK => ?_)
      go_simp
      refine hK.out _ _ (fun _ => hHeld) ?_
      clear hK K
      try simp only [Act.put, List.setIfInBounds_toArray, List.set_cons_zero, List.set_cons_succ]
      refine Ord.wpAnyU_done (by kernel_rfl) ?_ _
      go_wp2
      go_ret2
      exact ⟨rfl, HW7.out⟩
    · have dz : (r.err == 0) = false := beq_eq_false_iff_ne.2 hz
      rw [HB1.out hm hz]
      clear HB0 HB1 HB2 dm hm
      go_enter Tryd.func7, Tryd.ntmps7
      go_upto_region 1 with fail
      apply wp_region_lit
      refine load_rep rfl (.tmp 1) rfl w.heap.size rfl r HST.out ?_
      go_wp2_with (first | (go_at_call 17; (with_reducible refine (CB.out _).mono ?_); rintro e w1 ⟨rfl, hb1⟩; have HS1 := Lib.hid (HST.out.below hb1); obtain ⟨g0, -⟩ := HS1.out.five; have HW1 := Lib.hid (below2 (below_al (Below.refl w.heap.size w) _) hb1); clear hb1) | (go_at_call 18; (with_reducible refine (CU.out _).mono ?_); rintro e w2 ⟨rfl, hb2⟩; have HS2 := Lib.hid (HS1.out.below hb2); obtain ⟨k0, k1, k2, k3, k4⟩ := HS2.out.five; have HW2 := Lib.hid (below2 HW1.out hb2); clear hb2))
      go_ret2
      exact ⟨rfl, HW2.out⟩
  · have dm : decide (May r) = false := decide_eq_false hm
    rw [dm] at CB
    rw [HB2.out hm]
    clear HB0 HB1 HB2 dm hm
    go_enter Tryd.func7, Tryd.ntmps7
    go_upto_region 1 with fail
    apply wp_region_lit
    refine load_rep rfl (.tmp 1) rfl w.heap.size rfl r HST.out ?_
    go_wp2_with (go_at_call 17; (with_reducible refine (CB.out _).mono ?_); rintro e w1 ⟨rfl, hb1⟩; have HS1 := Lib.hid (HST.out.below hb1); obtain ⟨g0, -⟩ := HS1.out.five; have HW1 := Lib.hid (below2 (below_al (Below.refl w.heap.size w) _) hb1); clear hb1)
    go_ret2
    exact ⟨rfl, HW1.out⟩
end Rep
end Go.Proofs.YtmaddebfoefckaaDoor
