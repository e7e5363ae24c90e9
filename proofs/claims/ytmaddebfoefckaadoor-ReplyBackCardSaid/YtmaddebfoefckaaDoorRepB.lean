/- The laws of replies: the walks. -/
import Derived.Test.YtmaddebfoefckaaDoorRepA
set_option linter.unusedSimpArgs false
set_option linter.unusedVariables false
namespace Go.Proofs.YtmaddebfoefckaaDoor
open Go.RowKit Go.Great Go.Sort
namespace Rep
open Pen (bs bs_append uintB intB I64 intS uintS doneS)
open Go.Lib (decDigits itoa)
theorem run_same {o : Oper} {ev : Operand → Value} {w : World} {a : RepIn} (x y : Operand) (ho : o.op = .binOp .eql 24 x y 24) (hx : ev x = .agg a.val) (hy : ev y = .agg a.val) : (execOp ev o).run Tryd.prog w = .ok (.value (.bool true)) w := by
  have h := run_eq (w := w) x y ho hx hy
  rw [decide_eq_true rfl] at h
  exact h
theorem run_other {o : Oper} {ev : Operand → Value} {w : World} {a : RepIn} (x y : Operand) (ho : o.op = .binOp .neq 24 x y 24) (hx : ev x = .agg a.val) (hy : ev y = .agg a.val) : (execOp ev o).run Tryd.prog w = .ok (.value (.bool false)) w := by
  obtain ⟨a0, a1, a2, a3, a4⟩ := val_at a
  unfold execOp
  simp only [ho, hx, hy]
  go_simp
theorem wpList_unguard {P : Program} {ops : Array Oper} {rest : List Oper} {o : Oper} {a : Act} {w : World} {Q : Exit → Act → World → Prop} (hw : Region.wanted o (yielded ops a.tmps) = true) (h : wpList P ops Q ({ o with guard := none } :: rest) a w) : wpList P ops Q (o :: rest) a w := by
  have h' : (if Region.wanted { o with guard := none } (yielded ops a.tmps) = true then Oper.wp P { o with guard := none } a w (wpList P ops Q rest) Q ∨ (Oper.asks P { o with guard := none } a w ∧ LetsOut Q) else wpList P ops Q rest (a.put o.dst undef) w) := h
  rw [if_pos (show Region.wanted { o with guard := none } (yielded ops a.tmps) = true from rfl)] at h'
  show (if Region.wanted o (yielded ops a.tmps) = true then Oper.wp P o a w (wpList P ops Q rest) Q ∨ (Oper.asks P o a w ∧ LetsOut Q) else wpList P ops Q rest (a.put o.dst undef) w)
  rw [if_pos hw]
  exact h'
theorem putV_01 (r : RepIn) : (putV r).2 = 0 ∧ May r ∨ (putV r).2 = 1 ∧ ¬ May r := by
  by_cases h : May r
  · exact Or.inl ⟨by rw [may_put h], h⟩
  · exact Or.inr ⟨by rw [may_not h], h⟩
theorem beq_of {a b : ByteArray} {p : Prop} [Decidable p] (h : a = b ↔ p) : (a.toList == b.toList) = decide p := by
  by_cases hp : p
  · rw [decide_eq_true hp]
    exact beq_yes (h.2 hp)
  · rw [decide_eq_false hp]
    exact beq_no fun e => hp (h.1 e)
theorem bs_inj {a b : List UInt8} (h : bs a = bs b) : a = b := by
  have := congrArg (fun x => x.data.toList) h
  exact this
theorem rep_size (r : RepIn) : (bs (repB r)).size ≤ 1000000000 := by
  rw [Pen.bs_size]
  have h1 := Pen.uintB_len r.err
  have h2 := Pen.intB_len r.id
  have h3 := Pen.intB_len r.n
  have h4 := Pen.intB_len r.st
  have h5 := Pen.intB_len r.ti
  unfold repB numsB
  rw [List.length_append]
  split
  · rw [List.length_append, List.length_append, List.length_append]
    omega
  · simp
    omega
set_option maxRecDepth 100000 in
set_option maxHeartbeats 8000000 in
theorem puts_law (r : RepIn) (hr : Rok r) (s : ByteArray) (w : World) (ht : Tab w) : Calls Tryd.prog 3 #[.agg r.val, .string s] w fun e w' => e = .returned (.bool true) ∧ Below w.heap.size w w' := by
  have HT := Lib.hid ht
  have HST := Lib.hid (rp_new (w := w) rfl r)
  have CA : Hid (∀ W, Tab W → Calls Tryd.prog 5 #[] W fun e w' => e = .returned (.bool true) ∧ Below W.heap.size W w') := fun W h => awake_any W h
  clear ht
  by_cases hlen : (128 : Int) < (s.size : Int)
  · have dlen : decide ((128 : Int) < (s.size : Int)) = true := decide_eq_true hlen
    go_enter Tryd.func3, Tryd.ntmps3
    go_wp2_with (go_at_call 5; (with_reducible refine (CA.out _ (HT.out.below (below_al (Below.refl _ _) _))).mono ?_); rintro e w2 ⟨rfl, hb2⟩; have HW2 := Lib.hid (below2 (below_al (Below.refl w.heap.size w) _) hb2); clear hb2)
    go_ret
    exact ⟨rfl, HW2.out⟩
  · have dlen : decide ((128 : Int) < (s.size : Int)) = false := decide_eq_false hlen
    have CP1 : Hid (∀ W, Calls Tryd.prog 6 #[.agg r.val] W fun x w' => x = .returned (.tuple #[.string (bs (putV r).1), .int .i64 (putV r).2]) ∧ Below W.heap.size W w') := fun W => put_any r hr W
    have CP2 : Hid (∀ W, Calls Tryd.prog 7 #[.agg r.val] W fun x w' => x = .returned (.tuple #[.string (bs (putV r).1), .int .i64 (putV r).2]) ∧ Below W.heap.size W w') := fun W => refPut_any r hr W
    have CT1 : Hid (∀ W, Calls Tryd.prog 8 #[.string s] W fun e w' => e = .returned (.tuple #[.agg (takeV s.data.toList).1.val, .int .i64 (takeV s.data.toList).2]) ∧ Below W.heap.size W w') := fun W => take_any s (by omega) W
    have CT2 : Hid (∀ W, Calls Tryd.prog 9 #[.string s] W fun e w' => e = .returned (.tuple #[.agg (takeV s.data.toList).1.val, .int .i64 (takeV s.data.toList).2]) ∧ Below W.heap.size W w') := fun W => refTake_any s (by omega) W
    have CX1 : Hid (∀ W, Tab W → Calls Tryd.prog 10 #[.agg r.val] W fun x w' => x = .returned (.string (bs (textV r))) ∧ Below W.heap.size W w') := fun W h => text_any r hr W h
    have CX2 : Hid (∀ W, Calls Tryd.prog 11 #[.agg r.val] W fun x w' => x = .returned (.string (bs (textV r))) ∧ Below W.heap.size W w') := fun W => refText_any r hr W
    have CO : Hid (∀ W, Calls Tryd.prog 12 #[.int .i64 r.err] W fun x w' => x = .returned (.agg (ofE r.err).val) ∧ Below W.heap.size W w') := fun W => of_any r.err W
    generalize bs (putV r).1 = TS at *
    generalize (putV r).2 = PE at *
    generalize (takeV s.data.toList).1 = x at *
    generalize (takeV s.data.toList).2 = g at *
    generalize bs (textV r) = TX at *
    have qs := beq_yes (rfl : TS = TS)
    have qx := beq_yes (rfl : TX = TX)
    have qe : (PE == PE) = true := by simp
    have qg : (g == g) = true := by simp
    go_enter Tryd.func3, Tryd.ntmps3
    go_upto_region 3 with fail
    apply wp_region_lit
    refine load_rep rfl (.tmp 2) rfl w.heap.size rfl r HST.out ?_
    go_upto_region 4 with (go_at_call 6; (with_reducible refine (CP1.out _).mono ?_); rintro e w2 ⟨rfl, hb2⟩; have HS2 := Lib.hid (HST.out.below hb2); have HB2 := Lib.hid (below2 (below_al (Below.refl w.heap.size w) _) hb2); clear hb2)
    apply wp_region_lit
    refine load_rep rfl (.tmp 2) rfl w.heap.size rfl r HS2.out ?_
    go_upto_region 5 with (go_at_call 7; (with_reducible refine (CP2.out _).mono ?_); rintro e w3 ⟨rfl, hb3⟩; have HS3 := Lib.hid (HS2.out.below hb3); have HB3 := Lib.hid (below2 HB2.out hb3); clear hb3)
    go_upto_region 6 with (first
      | (go_at_call 8; (with_reducible refine (CT1.out _).mono ?_); rintro e w4 ⟨rfl, hb4⟩)
      | (refine store_rep rfl (.tmp 9) (.tmp 30) rfl rfl w4.heap.size x (ofE 0) rfl rfl (heap_alloc_new w4 _) ?_; refine wpl_named fun w5 hw5 => ?_; have HX5 : Hid (Rp w5 w4.heap.size x) := (by rw [hw5]; exact rp_of_heap (setRow_rep x (c0 := ofE 0) (heap_alloc_new w4 _))); have HN5 : Hid (Below w4.heap.size w4 w5) := (by rw [hw5]; exact below_setRow (below_al (Below.refl _ _) _) _ (Nat.le_refl _) _); have HB5 := Lib.hid (below2 HB3.out (below2 hb4 HN5.out)); have HS5 := Lib.hid (HS3.out.below (below2 hb4 HN5.out)); clear hw5))
    go_upto_region 7 with (first
      | (go_at_call 9; (with_reducible refine (CT2.out _).mono ?_); rintro e w6 ⟨rfl, hb6⟩)
      | (refine store_rep rfl (.tmp 11) (.tmp 35) rfl rfl w6.heap.size x (ofE 0) rfl rfl (heap_alloc_new w6 _) ?_; refine wpl_named fun w7 hw7 => ?_; have HY7 : Hid (Rp w7 w6.heap.size x) := (by rw [hw7]; exact rp_of_heap (setRow_rep x (c0 := ofE 0) (heap_alloc_new w6 _))); have HN7 : Hid (Below w6.heap.size w6 w7) := (by rw [hw7]; exact below_setRow (below_al (Below.refl _ _) _) _ (Nat.le_refl _) _); have HB7 := Lib.hid (below2 HB5.out (below2 hb6 HN7.out)); have HX7 := Lib.hid (HX5.out.below (below2 hb6 HN7.out)); have HS7 := Lib.hid (HS5.out.below (below2 hb6 HN7.out)); clear hw7))
    have hH0 : Rp w7.drew w4.heap.size x ∧ Rp w7.drew w6.heap.size x ∧ Rp w7.drew w.heap.size r := ⟨HX7.out.drew, HY7.out.drew, HS7.out.drew⟩
    have HD7 : Hid (Below w.heap.size w w7.drew) := below_dN HB7.out 1
    refine Ord.wp_region_U (fun W' => Rp W' w4.heap.size x ∧ Rp W' w6.heap.size x ∧ Rp W' w.heap.size r) [] (by kernel_rfl) ?_
    have hHeld := hH0
    refine take_at (i := 0) (v := ?_) 37 rfl rfl (by kernel_rfl) (by kernel_rfl) (by kernel_rfl) (by kernel_rfl) (by kernel_rfl) (by kernel_rfl) (by kernel_rfl) (fun _ _ _ h => h) (Or.inl ⟨by kernel_rfl, ?_⟩) hHeld ?_
    rotate_left
    · intro w hSw; (try dsimp only at hSw); (try obtain ⟨hA1, hA2, hA3⟩ := hSw; obtain ⟨f0, f1, f2, f3, f4⟩ := Rp.five hA3); go_simp; (try with_reducible rfl)
    try simp only [Act.put, List.setIfInBounds_toArray, List.set_cons_zero, List.set_cons_succ]
    refine take_at (i := 1) (v := ?_) 38 rfl rfl (by kernel_rfl) (by kernel_rfl) (by kernel_rfl) (by kernel_rfl) (by kernel_rfl) (by kernel_rfl) (by kernel_rfl) (fun _ _ _ h => h) (Or.inl ⟨by kernel_rfl, ?_⟩) hHeld ?_
    rotate_left
    · intro w hSw; (try dsimp only at hSw); (try obtain ⟨hA1, hA2, hA3⟩ := hSw; obtain ⟨f0, f1, f2, f3, f4⟩ := Rp.five hA3); go_simp; (try with_reducible rfl)
    try simp only [Act.put, List.setIfInBounds_toArray, List.set_cons_zero, List.set_cons_succ]
    refine take_at (i := 2) (v := ?_) 39 rfl rfl (by kernel_rfl) (by kernel_rfl) (by kernel_rfl) (by kernel_rfl) (by kernel_rfl) (by kernel_rfl) (by kernel_rfl) (fun _ _ _ h => h) (Or.inl ⟨by kernel_rfl, ?_⟩) hHeld ?_
    rotate_left
    · intro w hSw; (try dsimp only at hSw); (try obtain ⟨hA1, hA2, hA3⟩ := hSw; obtain ⟨f0, f1, f2, f3, f4⟩ := Rp.five hA3); go_simp; (try with_reducible rfl)
    try simp only [Act.put, List.setIfInBounds_toArray, List.set_cons_zero, List.set_cons_succ]
    refine take_at (i := 3) (v := ?_) 40 rfl rfl (by kernel_rfl) (by kernel_rfl) (by kernel_rfl) (by kernel_rfl) (by kernel_rfl) (by kernel_rfl) (by kernel_rfl) (fun _ _ _ h => h) (Or.inl ⟨by kernel_rfl, ?_⟩) hHeld ?_
    rotate_left
    · intro w hSw; (try dsimp only at hSw); (try obtain ⟨hA1, hA2, hA3⟩ := hSw; obtain ⟨f0, f1, f2, f3, f4⟩ := Rp.five hA3); go_simp; (try with_reducible rfl)
    try simp only [Act.put, List.setIfInBounds_toArray, List.set_cons_zero, List.set_cons_succ]
    refine take_at (i := 4) (v := ?_) 41 rfl rfl (by kernel_rfl) (by kernel_rfl) (by kernel_rfl) (by kernel_rfl) (by kernel_rfl) (by kernel_rfl) (by kernel_rfl) (fun _ _ _ h => h) (Or.inl ⟨by kernel_rfl, ?_⟩) hHeld ?_
    rotate_left
    · intro w hSw; (try dsimp only at hSw); (try obtain ⟨hA1, hA2, hA3⟩ := hSw; obtain ⟨f0, f1, f2, f3, f4⟩ := Rp.five hA3); go_simp; (try with_reducible rfl)
    try simp only [Act.put, List.setIfInBounds_toArray, List.set_cons_zero, List.set_cons_succ]
    refine take_at (i := 5) (v := ?_) 42 rfl rfl (by kernel_rfl) (by kernel_rfl) (by kernel_rfl) (by kernel_rfl) (by kernel_rfl) (by kernel_rfl) (by kernel_rfl) (fun _ _ _ h => h) (Or.inl ⟨by kernel_rfl, ?_⟩) hHeld ?_
    rotate_left
    · intro w hSw; (try dsimp only at hSw); (try obtain ⟨hA1, hA2, hA3⟩ := hSw; obtain ⟨f0, f1, f2, f3, f4⟩ := Rp.five hA3); go_simp; (try with_reducible rfl)
    try simp only [Act.put, List.setIfInBounds_toArray, List.set_cons_zero, List.set_cons_succ]
    refine take_at (i := 6) (v := ?_) 43 rfl rfl (by kernel_rfl) (by kernel_rfl) (by kernel_rfl) (by kernel_rfl) (by kernel_rfl) (by kernel_rfl) (by kernel_rfl) (fun _ _ _ h => h) (Or.inl ⟨by kernel_rfl, ?_⟩) hHeld ?_
    rotate_left
    · intro w hSw; (try dsimp only at hSw); (try obtain ⟨hA1, hA2, hA3⟩ := hSw; obtain ⟨f0, f1, f2, f3, f4⟩ := Rp.five hA3); go_simp; (try with_reducible rfl)
    try simp only [Act.put, List.setIfInBounds_toArray, List.set_cons_zero, List.set_cons_succ]
    refine take_at (i := 7) (v := ?_) 44 rfl rfl (by kernel_rfl) (by kernel_rfl) (by kernel_rfl) (by kernel_rfl) (by kernel_rfl) (by kernel_rfl) (by kernel_rfl) (fun _ _ _ h => h) (Or.inl ⟨by kernel_rfl, ?_⟩) hHeld ?_
    rotate_left
    · intro w hSw; (try dsimp only at hSw); (try obtain ⟨hA1, hA2, hA3⟩ := hSw; obtain ⟨f0, f1, f2, f3, f4⟩ := Rp.five hA3); go_simp; (try with_reducible rfl)
    try simp only [Act.put, List.setIfInBounds_toArray, List.set_cons_zero, List.set_cons_succ]
    refine take_at (i := 8) (v := ?_) 45 rfl rfl (by kernel_rfl) (by kernel_rfl) (by kernel_rfl) (by kernel_rfl) (by kernel_rfl) (by kernel_rfl) (by kernel_rfl) (fun _ _ _ h => h) (Or.inl ⟨by kernel_rfl, ?_⟩) hHeld ?_
    rotate_left
    · intro w hSw; (try dsimp only at hSw); (try obtain ⟨hA1, hA2, hA3⟩ := hSw; obtain ⟨f0, f1, f2, f3, f4⟩ := Rp.five hA3); go_simp; (try with_reducible rfl)
    try simp only [Act.put, List.setIfInBounds_toArray, List.set_cons_zero, List.set_cons_succ]
    refine take_at (i := 9) (v := .agg x.val) 46 rfl rfl (by kernel_rfl) (by kernel_rfl) (by kernel_rfl) (by kernel_rfl) (by kernel_rfl) (by kernel_rfl) (by kernel_rfl) (fun _ _ _ h => h) (Or.inl ⟨by kernel_rfl, ?_⟩) hHeld ?_
    · exact fun W2 hS2 => run_load_rep (.tmp 9) rfl rfl hS2.1
    try simp only [Act.put, List.setIfInBounds_toArray, List.set_cons_zero, List.set_cons_succ]
    refine take_at (i := 10) (v := .agg x.val) 47 rfl rfl (by kernel_rfl) (by kernel_rfl) (by kernel_rfl) (by kernel_rfl) (by kernel_rfl) (by kernel_rfl) (by kernel_rfl) (fun _ _ _ h => h) (Or.inl ⟨by kernel_rfl, ?_⟩) hHeld ?_
    · exact fun W2 hS2 => run_load_rep (.tmp 11) rfl rfl hS2.2.1
    try simp only [Act.put, List.setIfInBounds_toArray, List.set_cons_zero, List.set_cons_succ]
    refine take_at (i := 11) (v := .bool true) 48 rfl rfl (by kernel_rfl) (by kernel_rfl) (by kernel_rfl) (by kernel_rfl) (by kernel_rfl) (by kernel_rfl) (by kernel_rfl) (fun _ _ _ h => h) (Or.inl ⟨by kernel_rfl, ?_⟩) hHeld ?_
    · exact fun W2 hS2 => run_same (.tmp 46) (.tmp 47) rfl rfl rfl
    try simp only [Act.put, List.setIfInBounds_toArray, List.set_cons_zero, List.set_cons_succ]
    refine take_at (i := 12) (v := ?_) 49 rfl rfl (by kernel_rfl) (by kernel_rfl) (by kernel_rfl) (by kernel_rfl) (by kernel_rfl) (by kernel_rfl) (by kernel_rfl) (fun _ _ _ h => h) (Or.inl ⟨by kernel_rfl, ?_⟩) hHeld ?_
    rotate_left
    · intro w hSw; (try dsimp only at hSw); (try obtain ⟨hA1, hA2, hA3⟩ := hSw; obtain ⟨f0, f1, f2, f3, f4⟩ := Rp.five hA3); go_simp; (try with_reducible rfl)
    try simp only [Act.put, List.setIfInBounds_toArray, List.set_cons_zero, List.set_cons_succ]
    refine take_at (i := 13) (v := ?_) 50 rfl rfl (by kernel_rfl) (by kernel_rfl) (by kernel_rfl) (by kernel_rfl) (by kernel_rfl) (by kernel_rfl) (by kernel_rfl) (fun _ _ _ h => h) (Or.inl ⟨by kernel_rfl, ?_⟩) hHeld ?_
    rotate_left
    · intro w hSw; (try dsimp only at hSw); (try obtain ⟨hA1, hA2, hA3⟩ := hSw; obtain ⟨f0, f1, f2, f3, f4⟩ := Rp.five hA3); go_simp; (try with_reducible rfl)
    try simp only [Act.put, List.setIfInBounds_toArray, List.set_cons_zero, List.set_cons_succ]
    refine take_at (i := 14) (v := ?_) 51 rfl rfl (by kernel_rfl) (by kernel_rfl) (by kernel_rfl) (by kernel_rfl) (by kernel_rfl) (by kernel_rfl) (by kernel_rfl) (fun _ _ _ h => h) (Or.inl ⟨by kernel_rfl, ?_⟩) hHeld ?_
    rotate_left
    · intro w hSw; (try dsimp only at hSw); (try obtain ⟨hA1, hA2, hA3⟩ := hSw; obtain ⟨f0, f1, f2, f3, f4⟩ := Rp.five hA3); go_simp; (try with_reducible rfl)
    try simp only [Act.put, List.setIfInBounds_toArray, List.set_cons_zero, List.set_cons_succ]
    refine take_at (i := 15) (v := ?_) 52 rfl rfl (by kernel_rfl) (by kernel_rfl) (by kernel_rfl) (by kernel_rfl) (by kernel_rfl) (by kernel_rfl) (by kernel_rfl) (fun _ _ _ h => h) (Or.inl ⟨by kernel_rfl, ?_⟩) hHeld ?_
    rotate_left
    · intro w hSw; (try dsimp only at hSw); (try obtain ⟨hA1, hA2, hA3⟩ := hSw; obtain ⟨f0, f1, f2, f3, f4⟩ := Rp.five hA3); go_simp; (try with_reducible rfl)
    try simp only [Act.put, List.setIfInBounds_toArray, List.set_cons_zero, List.set_cons_succ]
    refine take_at (i := 16) (v := ?_) 53 rfl rfl (by kernel_rfl) (by kernel_rfl) (by kernel_rfl) (by kernel_rfl) (by kernel_rfl) (by kernel_rfl) (by kernel_rfl) (fun _ _ _ h => h) (Or.inl ⟨by kernel_rfl, ?_⟩) hHeld ?_
    rotate_left
    · intro w hSw; (try dsimp only at hSw); (try obtain ⟨hA1, hA2, hA3⟩ := hSw; obtain ⟨f0, f1, f2, f3, f4⟩ := Rp.five hA3); go_simp; (try with_reducible rfl)
    try simp only [Act.put, List.setIfInBounds_toArray, List.set_cons_zero, List.set_cons_succ]
    refine take_at (i := 17) (v := ?_) 54 rfl rfl (by kernel_rfl) (by kernel_rfl) (by kernel_rfl) (by kernel_rfl) (by kernel_rfl) (by kernel_rfl) (by kernel_rfl) (fun _ _ _ h => h) (Or.inl ⟨by kernel_rfl, ?_⟩) hHeld ?_
    rotate_left
    · intro w hSw; (try dsimp only at hSw); (try obtain ⟨hA1, hA2, hA3⟩ := hSw; obtain ⟨f0, f1, f2, f3, f4⟩ := Rp.five hA3); go_simp; (try with_reducible rfl)
    try simp only [Act.put, List.setIfInBounds_toArray, List.set_cons_zero, List.set_cons_succ]
    refine take_at (i := 18) (v := ?_) 55 rfl rfl (by kernel_rfl) (by kernel_rfl) (by kernel_rfl) (by kernel_rfl) (by kernel_rfl) (by kernel_rfl) (by kernel_rfl) (fun _ _ _ h => h) (Or.inl ⟨by kernel_rfl, ?_⟩) hHeld ?_
    rotate_left
    · intro w hSw; (try dsimp only at hSw); (try obtain ⟨hA1, hA2, hA3⟩ := hSw; obtain ⟨f0, f1, f2, f3, f4⟩ := Rp.five hA3); go_simp; (try with_reducible rfl)
    try simp only [Act.put, List.setIfInBounds_toArray, List.set_cons_zero, List.set_cons_succ]
    refine take_at (i := 19) (v := .agg r.val) 56 rfl rfl (by kernel_rfl) (by kernel_rfl) (by kernel_rfl) (by kernel_rfl) (by kernel_rfl) (by kernel_rfl) (by kernel_rfl) (fun _ _ _ h => h) (Or.inl ⟨by kernel_rfl, ?_⟩) hHeld ?_
    · exact fun W2 hS2 => run_load_rep (.tmp 2) rfl rfl hS2.2.2
    try simp only [Act.put, List.setIfInBounds_toArray, List.set_cons_zero, List.set_cons_succ]
    refine take_at (i := 21) (v := .agg r.val) 58 rfl rfl (by kernel_rfl) (by kernel_rfl) (by kernel_rfl) (by kernel_rfl) (by kernel_rfl) (by kernel_rfl) (by kernel_rfl) (fun _ _ _ h => h) (Or.inl ⟨by kernel_rfl, ?_⟩) hHeld ?_
    · exact fun W2 hS2 => run_load_rep (.tmp 2) rfl rfl hS2.2.2
    try simp only [Act.put, List.setIfInBounds_toArray, List.set_cons_zero, List.set_cons_succ]
    refine Ord.wpAnyU_one (i := 20) (by kernel_rfl) rfl (fun K hK => ?_)
    go_simp
    go_wp2_with (go_at_call 10; (with_reducible refine (CX1.out _ (HT.out.below HD7.out)).mono ?_); rintro e w8 ⟨rfl, hb8⟩; have hs8 : _ ∧ _ ∧ _ := ⟨hH0.1.below hb8, hH0.2.1.below hb8, hH0.2.2.below hb8⟩; have HB8 := Lib.hid (below2 HD7.out hb8))
    refine hK.out _ _ (fun _ => hs8) ?_
    clear hK K
    try simp only [Act.put, List.setIfInBounds_toArray, List.set_cons_zero, List.set_cons_succ]
    refine Ord.wpAnyU_one (i := 22) (by kernel_rfl) rfl (fun K hK => ?_)
    go_simp
    go_wp2_with (go_at_call 11; (with_reducible refine (CX2.out _).mono ?_); rintro e w9 ⟨rfl, hb9⟩; have hs9 : _ ∧ _ ∧ _ := ⟨hs8.1.below hb9, hs8.2.1.below hb9, hs8.2.2.below hb9⟩; have HB9 := Lib.hid (below2 HB8.out hb9))
    refine hK.out _ _ (fun _ => hs9) ?_
    clear hK K
    try simp only [Act.put, List.setIfInBounds_toArray, List.set_cons_zero, List.set_cons_succ]
    clear hHeld
    have hHeld := hs9
    refine take_at (i := 23) (v := ?_) 60 rfl rfl (by kernel_rfl) (by kernel_rfl) (by kernel_rfl) (by kernel_rfl) (by kernel_rfl) (by kernel_rfl) (by kernel_rfl) (fun _ _ _ h => h) (Or.inl ⟨by kernel_rfl, ?_⟩) hHeld ?_
    rotate_left
    · intro w hSw; (try dsimp only at hSw); (try obtain ⟨hA1, hA2, hA3⟩ := hSw; obtain ⟨f0, f1, f2, f3, f4⟩ := Rp.five hA3); go_simp; (try with_reducible rfl)
    try simp only [Act.put, List.setIfInBounds_toArray, List.set_cons_zero, List.set_cons_succ]
    refine take_at (i := 24) (v := ?_) 61 rfl rfl (by kernel_rfl) (by kernel_rfl) (by kernel_rfl) (by kernel_rfl) (by kernel_rfl) (by kernel_rfl) (by kernel_rfl) (fun _ _ _ h => h) (Or.inl ⟨by kernel_rfl, ?_⟩) hHeld ?_
    rotate_left
    · intro w hSw; (try dsimp only at hSw); (try obtain ⟨hA1, hA2, hA3⟩ := hSw; obtain ⟨f0, f1, f2, f3, f4⟩ := Rp.five hA3); go_simp; (try with_reducible rfl)
    try simp only [Act.put, List.setIfInBounds_toArray, List.set_cons_zero, List.set_cons_succ]
    refine take_at (i := 25) (v := ?_) 62 rfl rfl (by kernel_rfl) (by kernel_rfl) (by kernel_rfl) (by kernel_rfl) (by kernel_rfl) (by kernel_rfl) (by kernel_rfl) (fun _ _ _ h => h) (Or.inl ⟨by kernel_rfl, ?_⟩) hHeld ?_
    rotate_left
    · intro w hSw; (try dsimp only at hSw); (try obtain ⟨hA1, hA2, hA3⟩ := hSw; obtain ⟨f0, f1, f2, f3, f4⟩ := Rp.five hA3); go_simp; (try with_reducible rfl)
    try simp only [Act.put, List.setIfInBounds_toArray, List.set_cons_zero, List.set_cons_succ]
    refine take_at (i := 26) (v := ?_) 63 rfl rfl (by kernel_rfl) (by kernel_rfl) (by kernel_rfl) (by kernel_rfl) (by kernel_rfl) (by kernel_rfl) (by kernel_rfl) (fun _ _ _ h => h) (Or.inl ⟨by kernel_rfl, ?_⟩) hHeld ?_
    rotate_left
    · intro w hSw; (try dsimp only at hSw); (try obtain ⟨hA1, hA2, hA3⟩ := hSw; obtain ⟨f0, f1, f2, f3, f4⟩ := Rp.five hA3); go_simp; (try with_reducible rfl)
    try simp only [Act.put, List.setIfInBounds_toArray, List.set_cons_zero, List.set_cons_succ]
    refine take_at (i := 27) (v := ?_) 64 rfl rfl (by kernel_rfl) (by kernel_rfl) (by kernel_rfl) (by kernel_rfl) (by kernel_rfl) (by kernel_rfl) (by kernel_rfl) (fun _ _ _ h => h) (Or.inl ⟨by kernel_rfl, ?_⟩) hHeld ?_
    rotate_left
    · intro w hSw; (try dsimp only at hSw); (try obtain ⟨hA1, hA2, hA3⟩ := hSw; obtain ⟨f0, f1, f2, f3, f4⟩ := Rp.five hA3); go_simp; (try with_reducible rfl)
    try simp only [Act.put, List.setIfInBounds_toArray, List.set_cons_zero, List.set_cons_succ]
    refine take_at (i := 29) (v := ?_) 66 rfl rfl (by kernel_rfl) (by kernel_rfl) (by kernel_rfl) (by kernel_rfl) (by kernel_rfl) (by kernel_rfl) (by kernel_rfl) (fun _ _ _ h => h) (Or.inl ⟨by kernel_rfl, ?_⟩) hHeld ?_
    rotate_left
    · intro w hSw; (try dsimp only at hSw); (try obtain ⟨hA1, hA2, hA3⟩ := hSw; obtain ⟨f0, f1, f2, f3, f4⟩ := Rp.five hA3); go_simp; (try with_reducible rfl)
    try simp only [Act.put, List.setIfInBounds_toArray, List.set_cons_zero, List.set_cons_succ]
    refine take_at (i := 30) (v := ?_) 67 rfl rfl (by kernel_rfl) (by kernel_rfl) (by kernel_rfl) (by kernel_rfl) (by kernel_rfl) (by kernel_rfl) (by kernel_rfl) (fun _ _ _ h => h) (Or.inl ⟨by kernel_rfl, ?_⟩) hHeld ?_
    rotate_left
    · intro w hSw; (try dsimp only at hSw); (try obtain ⟨hA1, hA2, hA3⟩ := hSw; obtain ⟨f0, f1, f2, f3, f4⟩ := Rp.five hA3); go_simp; (try with_reducible rfl)
    try simp only [Act.put, List.setIfInBounds_toArray, List.set_cons_zero, List.set_cons_succ]
    refine take_at (i := 31) (v := ?_) 68 rfl rfl (by kernel_rfl) (by kernel_rfl) (by kernel_rfl) (by kernel_rfl) (by kernel_rfl) (by kernel_rfl) (by kernel_rfl) (fun _ _ _ h => h) (Or.inl ⟨by kernel_rfl, ?_⟩) hHeld ?_
    rotate_left
    · intro w hSw; (try dsimp only at hSw); (try obtain ⟨hA1, hA2, hA3⟩ := hSw; obtain ⟨f0, f1, f2, f3, f4⟩ := Rp.five hA3); go_simp; (try with_reducible rfl)
    try simp only [Act.put, List.setIfInBounds_toArray, List.set_cons_zero, List.set_cons_succ]
    refine Ord.wpAnyU_one (i := 28) (by kernel_rfl) rfl (fun K hK => ?_)
    go_simp
    go_wp2_with (go_at_call 12; (with_reducible refine (CO.out _).mono ?_); rintro e w10 ⟨rfl, hb10⟩; have hs10 : _ ∧ _ ∧ _ := ⟨hs9.1.below hb10, hs9.2.1.below hb10, hs9.2.2.below hb10⟩; have HB10 := Lib.hid (below2 HB9.out hb10))
    refine hK.out _ _ (fun _ => hs10) ?_
    clear hK K
    try simp only [Act.put, List.setIfInBounds_toArray, List.set_cons_zero, List.set_cons_succ]
    clear hHeld
    have hHeld := hs10
    refine take_at (i := 32) (v := .bool true) 69 rfl rfl (by kernel_rfl) (by kernel_rfl) (by kernel_rfl) (by kernel_rfl) (by kernel_rfl) (by kernel_rfl) (by kernel_rfl) (fun _ _ _ h => h) (Or.inl ⟨by kernel_rfl, ?_⟩) hHeld ?_
    · exact fun W2 hS2 => run_same (a := ofE r.err) (.tmp 65) (.tmp 68) rfl rfl rfl
    try simp only [Act.put, List.setIfInBounds_toArray, List.set_cons_zero, List.set_cons_succ]
    refine take_at (i := 33) (v := ?_) 70 rfl rfl (by kernel_rfl) (by kernel_rfl) (by kernel_rfl) (by kernel_rfl) (by kernel_rfl) (by kernel_rfl) (by kernel_rfl) (fun _ _ _ h => h) (Or.inl ⟨by kernel_rfl, ?_⟩) hHeld ?_
    rotate_left
    · intro w hSw; (try dsimp only at hSw); (try obtain ⟨hA1, hA2, hA3⟩ := hSw; obtain ⟨f0, f1, f2, f3, f4⟩ := Rp.five hA3); go_simp; (try with_reducible rfl)
    try simp only [Act.put, List.setIfInBounds_toArray, List.set_cons_zero, List.set_cons_succ]
    refine take_at (i := 34) (v := ?_) 71 rfl rfl (by kernel_rfl) (by kernel_rfl) (by kernel_rfl) (by kernel_rfl) (by kernel_rfl) (by kernel_rfl) (by kernel_rfl) (fun _ _ _ h => h) (Or.inl ⟨by kernel_rfl, ?_⟩) hHeld ?_
    rotate_left
    · intro w hSw; (try dsimp only at hSw); (try obtain ⟨hA1, hA2, hA3⟩ := hSw; obtain ⟨f0, f1, f2, f3, f4⟩ := Rp.five hA3); go_simp; (try with_reducible rfl)
    try simp only [Act.put, List.setIfInBounds_toArray, List.set_cons_zero, List.set_cons_succ]
    refine Ord.wpAnyU_one (i := 35) (by kernel_rfl) rfl (fun K hK => ?_)
    go_simp
    go_wp2_with (go_at_call 5; (with_reducible refine (CA.out _ (HT.out.below HB10.out)).mono ?_); rintro e w11 ⟨rfl, hb11⟩; have hs11 : _ ∧ _ ∧ _ := ⟨hs10.1.below hb11, hs10.2.1.below hb11, hs10.2.2.below hb11⟩; have HB11 := Lib.hid (below2 HB10.out hb11))
    refine hK.out _ _ (fun _ => hs11) ?_
    clear hK K
    try simp only [Act.put, List.setIfInBounds_toArray, List.set_cons_zero, List.set_cons_succ]
    clear hHeld
    have hHeld := hs11
    refine take_at (i := 36) (v := ?_) 73 rfl rfl (by kernel_rfl) (by kernel_rfl) (by kernel_rfl) (by kernel_rfl) (by kernel_rfl) (by kernel_rfl) (by kernel_rfl) (fun _ _ _ h => h) (Or.inl ⟨by kernel_rfl, ?_⟩) hHeld ?_
    rotate_left
    · intro w hSw; (try dsimp only at hSw); (try obtain ⟨hA1, hA2, hA3⟩ := hSw; obtain ⟨f0, f1, f2, f3, f4⟩ := Rp.five hA3); go_simp; (try with_reducible rfl)
    try simp only [Act.put, List.setIfInBounds_toArray, List.set_cons_zero, List.set_cons_succ]
    refine Ord.wpAnyU_one (i := 37) (by kernel_rfl) rfl (fun K hK => ?_)
    go_simp
    refine hK.out _ _ (fun _ => hs11) ?_
    clear hK K
    try simp only [Act.put, List.setIfInBounds_toArray, List.set_cons_zero, List.set_cons_succ]
    refine Ord.wpAnyU_done (by kernel_rfl) ?_ _
    go_wp2
    go_ret
    exact ⟨rfl, HB11.out⟩
end Rep
end Go.Proofs.YtmaddebfoefckaaDoor
