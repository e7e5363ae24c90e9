/- Stacks' bytes, and a command's: what they are; the document's stacks. -/
import Derived.Test.YtbjlkeneeodghaaDoorCmdC
set_option linter.unusedSimpArgs false
set_option linter.unusedVariables false
namespace Go.Proofs.YtbjlkeneeodghaaDoor
open Go.RowKit Go.Great
namespace Cmd
open Pen (bs bs_append uintB intB I64)
open In (Strs)
open Rec (below2 below_al below_dN Stk Stks stkVals)
/-- Stacks' bytes, without their number; with it. -/
def stksB (l : List Stk) : List UInt8 := l.flatMap fun s => intB s.1 ++ intB s.2
def stkB (l : List Stk) : List UInt8 := uintB (l.length : Int) ++ stksB l
theorem stksB_succ (l : List Stk) (k : Nat) (h : k < l.length) : stksB (l.take (k + 1)) = stksB (l.take k) ++ (intB (l.getD k (0, 0)).1 ++ intB (l.getD k (0, 0)).2) := by
  have e : l.take (k + 1) = l.take k ++ [l.getD k (0, 0)] := by
    rw [List.take_add_one]
    congr 1
    rw [List.getElem?_eq_getElem h, List.getD_eq_getElem?_getD, List.getElem?_eq_getElem h]
    rfl
  rw [e]
  simp [stksB]
theorem uintB_len (n : Int) : (uintB n).length ≤ 10 := by
  unfold uintB
  split
  · simp
  · have := (Pen.wbF_len 9 n.toNat).2
    unfold Pen.wb
    omega
theorem stksB_len (l : List Stk) : (stksB l).length ≤ 20 * l.length := by
  induction l with
  | nil => simp [stksB]
  | cons x l ih =>
    have e : stksB (x :: l) = (intB x.1 ++ intB x.2) ++ stksB l := by simp [stksB]
    have h1 := Pen.intB_len x.1
    have h2 := Pen.intB_len x.2
    rw [e, List.length_append, List.length_append, List.length_cons]
    omega
theorem fits {A B : List UInt8} (ha : A.length ≤ 100000) (hb : B.length ≤ 100000) : ¬ 9223372036854775807 < (bs A).size + (bs B).size := by
  rw [Pen.bs_size, Pen.bs_size]
  omega
/-- Every number of the stacks is one. -/
def Snum (l : List Stk) : Prop := ∀ i, i < l.length → I64 (l.getD i (0, 0)).1 ∧ I64 (l.getD i (0, 0)).2
set_option maxHeartbeats 1000000 in
set_option maxRecDepth 100000 in
theorem refStacks_any (a : Option Addr) (c : Nat) (l : List Stk) (n : Nat) (hn : l.length = n) (hl : n ≤ 100) (hi : Snum l) (w : World) (ha : Stks w a l) :
    Calls Tryd.prog 32 #[.slice a n c] w fun e w' => e = .returned (.string (bs (stkB l))) ∧ Below w.heap.size w w' := by
  have HA := Lib.hid ha
  have HN := Lib.hid hn
  have HI := Lib.hid hi
  have CU : Hid (∀ W, Calls Tryd.prog 30 #[.int .i64 n] W fun e w' => e = .returned (.string (bs (uintB n))) ∧ Below W.heap.size W w') := fun W => Pen.refUint_any n (by omega) W
  have CI : Hid (∀ x, I64 x → ∀ W, Calls Tryd.prog 31 #[.int .i64 x] W fun e w' => e = .returned (.string (bs (intB x))) ∧ Below W.heap.size W w') := fun x hx W => Pen.refInt_any x hx W
  have HS0 : Hid (bs (uintB n) = bs (uintB n ++ stksB (l.take 0))) := by show _ = _; simp [stksB]
  have HSS : Hid (∀ k, k < n → uintB n ++ stksB (l.take (k + 1)) = (uintB n ++ stksB (l.take k)) ++ intB (l.getD k (0, 0)).1 ++ intB (l.getD k (0, 0)).2) := fun k hk => by rw [stksB_succ l k (by rw [hn]; exact hk)]; simp
  have HSE : Hid (uintB n ++ stksB (l.take n) = stkB l) := by show _ = _; unfold stkB; rw [hn, ← hn, List.take_length]
  have HSL : Hid (∀ k, k ≤ n → (uintB n ++ stksB (l.take k)).length ≤ 3000) := fun k hk => by
    have h1 := uintB_len n
    have h2 := stksB_len (l.take k)
    rw [List.length_take] at h2
    rw [List.length_append]
    omega
  clear ha hn hi
  go_enter Tryd.func32, Tryd.ntmps32
  go_wp2_with (go_at_call 30; (with_reducible refine (CU.out _).mono ?_); rintro e w1 ⟨rfl, HB1⟩; rw [HS0.out])
  go_loopw [3, 4] (fun s i wr => ∃ k : Nat, k ≤ n ∧ i = .int .i64 k ∧ s = .string (bs (uintB n ++ stksB (l.take k))) ∧ Hid (Below w.heap.size w wr)) (fun _ i _ => n - (intOf i).toNat)
  case atStart => exact ⟨0, by omega, rfl, rfl, HB1⟩
  case round =>
    obtain ⟨k, hk, rfl, rfl, hb⟩ := hrel
    by_cases hlt : k < n
    · obtain ⟨b, off, rfl, hbl, hc, hd⟩ := (Stks.below HA.out hb) k (by rw [HN.out]; exact hlt)
      obtain ⟨i1, i2⟩ := HI.out k (by rw [HN.out]; exact hlt)
      have HX := HSS.out k hlt
      have HX' := Lib.hid HX
      clear HX
      have hlen := HSL.out k hk
      have HI1 := Lib.hid i1
      have HI2 := Lib.hid i2
      clear i1 i2
      have hlt1 : (k : Int) < (n : Int) := by omega
      have d1 : decide ((k : Int) < (n : Int)) = true := decide_eq_true hlt1
      have hk0 : (0 : Int) ≤ k := by omega
      generalize (l.getD k (0, 0)).1 = X at *
      generalize (l.getD k (0, 0)).2 = Y at *
      generalize uintB n ++ stksB (l.take k) = S at *
      have q1 := bs_append S (intB X)
      have q2 := bs_append (S ++ intB X) (intB Y)
      have z1 := fits (A := S) (B := intB X) (by omega) (by have := Pen.intB_len X; omega)
      have z2 := fits (A := S ++ intB X) (B := intB Y) (by have := Pen.intB_len X; rw [List.length_append]; omega) (by have := Pen.intB_len Y; omega)
      clear hlen
      go_wp2
      have hH0 : wr.drew.cell? ⟨b, off + k * 2, none⟩ = some (.int .i64 X) ∧ wr.drew.cell? ⟨b, off + k * 2 + 1, none⟩ = some (.int .i64 Y) := ⟨hc, hd⟩
      have hbl' : b < wr.drew.heap.size := hbl
      refine Ord.wp_region_U (fun W' => W'.cell? ⟨b, off + k * 2, none⟩ = some (.int .i64 X) ∧ W'.cell? ⟨b, off + k * 2 + 1, none⟩ = some (.int .i64 Y)) [] (by kernel_rfl) ?_
      have hHeld := hH0
      refine Ord.wpAnyU_take (i := 0) (v := ?_) rfl (by kernel_rfl) (by kernel_rfl) (by kernel_rfl) (by kernel_rfl) (by kernel_rfl) (by kernel_rfl) (by kernel_rfl) (fun _ _ _ h => h) (Or.inl ⟨by rfl, ?_⟩) hHeld ?_
      rotate_left
      · intro w hSw; (try dsimp only at hSw); go_simp; (try with_reducible rfl)
      try simp only [Act.put, List.setIfInBounds_toArray, List.set_cons_zero, List.set_cons_succ]
      refine Ord.wpAnyU_take (i := 1) (v := ?_) rfl (by kernel_rfl) (by kernel_rfl) (by kernel_rfl) (by kernel_rfl) (by kernel_rfl) (by kernel_rfl) (by kernel_rfl) (fun _ _ _ h => h) (Or.inl ⟨by rfl, ?_⟩) hHeld ?_
      rotate_left
      · intro w hSw; (try dsimp only at hSw); go_simp; (try with_reducible rfl)
      try simp only [Act.put, List.setIfInBounds_toArray, List.set_cons_zero, List.set_cons_succ]
      refine Ord.wpAnyU_take (i := 2) (v := ?_) rfl (by kernel_rfl) (by kernel_rfl) (by kernel_rfl) (by kernel_rfl) (by kernel_rfl) (by kernel_rfl) (by kernel_rfl) (fun _ _ _ h => h) (Or.inl ⟨by rfl, ?_⟩) hHeld ?_
      rotate_left
      · intro w hSw; (try dsimp only at hSw); go_simp; (try with_reducible rfl)
      try simp only [Act.put, List.setIfInBounds_toArray, List.set_cons_zero, List.set_cons_succ]
      refine Ord.wpAnyU_take (i := 3) (v := ?_) rfl (by kernel_rfl) (by kernel_rfl) (by kernel_rfl) (by kernel_rfl) (by kernel_rfl) (by kernel_rfl) (by kernel_rfl) (fun _ _ _ h => h) (Or.inl ⟨by rfl, ?_⟩) hHeld ?_
      rotate_left
      · intro w hSw; (try dsimp only at hSw); go_simp; (try with_reducible rfl)
      try simp only [Act.put, List.setIfInBounds_toArray, List.set_cons_zero, List.set_cons_succ]
      refine Ord.wpAnyU_take (i := 4) (v := ?_) rfl (by kernel_rfl) (by kernel_rfl) (by kernel_rfl) (by kernel_rfl) (by kernel_rfl) (by kernel_rfl) (by kernel_rfl) (fun _ _ _ h => h) (Or.inl ⟨by rfl, ?_⟩) hHeld ?_
      rotate_left
      · intro w hSw; (try dsimp only at hSw); go_simp; (try with_reducible rfl)
      try simp only [Act.put, List.setIfInBounds_toArray, List.set_cons_zero, List.set_cons_succ]
      refine Ord.wpAnyU_take (i := 5) (v := ?_) rfl (by kernel_rfl) (by kernel_rfl) (by kernel_rfl) (by kernel_rfl) (by kernel_rfl) (by kernel_rfl) (by kernel_rfl) (fun _ _ _ h => h) (Or.inl ⟨by rfl, ?_⟩) hHeld ?_
      rotate_left
      · intro w hSw; (try dsimp only at hSw); go_simp; (try with_reducible rfl)
      try simp only [Act.put, List.setIfInBounds_toArray, List.set_cons_zero, List.set_cons_succ]
      refine Ord.wpAnyU_take (i := 8) (v := ?_) rfl (by kernel_rfl) (by kernel_rfl) (by kernel_rfl) (by kernel_rfl) (by kernel_rfl) (by kernel_rfl) (by kernel_rfl) (fun _ _ _ h => h) (Or.inl ⟨by rfl, ?_⟩) hHeld ?_
      rotate_left
      · intro w hSw; (try dsimp only at hSw); go_simp; (try with_reducible rfl)
      try simp only [Act.put, List.setIfInBounds_toArray, List.set_cons_zero, List.set_cons_succ]
      refine Ord.wpAnyU_take (i := 9) (v := ?_) rfl (by kernel_rfl) (by kernel_rfl) (by kernel_rfl) (by kernel_rfl) (by kernel_rfl) (by kernel_rfl) (by kernel_rfl) (fun _ _ _ h => h) (Or.inl ⟨by rfl, ?_⟩) hHeld ?_
      rotate_left
      · intro w hSw; (try dsimp only at hSw); go_simp; (try with_reducible rfl)
      try simp only [Act.put, List.setIfInBounds_toArray, List.set_cons_zero, List.set_cons_succ]
      refine Ord.wpAnyU_take (i := 10) (v := ?_) rfl (by kernel_rfl) (by kernel_rfl) (by kernel_rfl) (by kernel_rfl) (by kernel_rfl) (by kernel_rfl) (by kernel_rfl) (fun _ _ _ h => h) (Or.inl ⟨by rfl, ?_⟩) hHeld ?_
      rotate_left
      · intro w hSw; (try dsimp only at hSw); go_simp; (try with_reducible rfl)
      try simp only [Act.put, List.setIfInBounds_toArray, List.set_cons_zero, List.set_cons_succ]
      refine Ord.wpAnyU_take (i := 11) (v := ?_) rfl (by kernel_rfl) (by kernel_rfl) (by kernel_rfl) (by kernel_rfl) (by kernel_rfl) (by kernel_rfl) (by kernel_rfl) (fun _ _ _ h => h) (Or.inl ⟨by rfl, ?_⟩) hHeld ?_
      rotate_left
      · intro w hSw; (try dsimp only at hSw); go_simp; (try with_reducible rfl)
      try simp only [Act.put, List.setIfInBounds_toArray, List.set_cons_zero, List.set_cons_succ]
      refine Ord.wpAnyU_take (i := 12) (v := ?_) rfl (by kernel_rfl) (by kernel_rfl) (by kernel_rfl) (by kernel_rfl) (by kernel_rfl) (by kernel_rfl) (by kernel_rfl) (fun _ _ _ h => h) (Or.inl ⟨by rfl, ?_⟩) hHeld ?_
      rotate_left
      · intro w hSw; (try dsimp only at hSw); go_simp; (try with_reducible rfl)
      try simp only [Act.put, List.setIfInBounds_toArray, List.set_cons_zero, List.set_cons_succ]
      refine Ord.wpAnyU_one (i := 6) (by kernel_rfl) rfl (fun K hK => ?_)
      go_simp
      go_wp2_with ((go_at_call 31; (with_reducible refine (CI.out X HI1.out _).mono ?_); rintro e w2 ⟨rfl, hb2⟩; have HB2 := Lib.hid hb2; clear hb2; have hs2 : _ ∧ _ := ⟨(HB2.out.cell (p := ⟨b, off + k * 2, none⟩) hbl').trans hH0.1, (HB2.out.cell (p := ⟨b, off + k * 2 + 1, none⟩) hbl').trans hH0.2⟩; have hl2 : b < w2.heap.size := Nat.lt_of_lt_of_le hbl' HB2.out.size))
      refine hK.out _ _ (fun _ => hs2) ?_
      clear hK K
      try simp only [Act.put, List.setIfInBounds_toArray, List.set_cons_zero, List.set_cons_succ]
      have hHeld := hs2
      refine Ord.wpAnyU_take (i := 7) (v := ?_) rfl (by kernel_rfl) (by kernel_rfl) (by kernel_rfl) (by kernel_rfl) (by kernel_rfl) (by kernel_rfl) (by kernel_rfl) (fun _ _ _ h => h) (Or.inl ⟨by rfl, ?_⟩) hHeld ?_
      rotate_left
      · intro w hSw; (try dsimp only at hSw); go_simp; (try with_reducible rfl)
      try simp only [Act.put, List.setIfInBounds_toArray, List.set_cons_zero, List.set_cons_succ]
      refine Ord.wpAnyU_one (i := 13) (by kernel_rfl) rfl (fun K hK => ?_)
      go_simp
      go_wp2_with ((go_at_call 31; (with_reducible refine (CI.out Y HI2.out _).mono ?_); rintro e w3 ⟨rfl, hb3⟩; have HB3 := Lib.hid hb3; clear hb3; have hs3 : _ ∧ _ := ⟨(HB3.out.cell (p := ⟨b, off + k * 2, none⟩) hl2).trans hs2.1, (HB3.out.cell (p := ⟨b, off + k * 2 + 1, none⟩) hl2).trans hs2.2⟩; have hl3 : b < w3.heap.size := Nat.lt_of_lt_of_le hl2 HB3.out.size))
      refine hK.out _ _ (fun _ => hs3) ?_
      clear hK K
      try simp only [Act.put, List.setIfInBounds_toArray, List.set_cons_zero, List.set_cons_succ]
      refine Ord.wpAnyU_one (i := 14) (by kernel_rfl) rfl (fun K hK => ?_)
      go_simp
      refine hK.out _ _ (fun _ => hs3) ?_
      clear hK K
      try simp only [Act.put, List.setIfInBounds_toArray, List.set_cons_zero, List.set_cons_succ]
      refine Ord.wpAnyU_one (i := 15) (by kernel_rfl) rfl (fun K hK => ?_)
      go_simp
      refine hK.out _ _ (fun _ => hs3) ?_
      clear hK K
      try simp only [Act.put, List.setIfInBounds_toArray, List.set_cons_zero, List.set_cons_succ]
      refine Ord.wpAnyU_done (by kernel_rfl) ?_ _
      go_wp2
      go_roundw
      case rel => exact ⟨k + 1, by omega, by go_num, by rw [HX'.out, List.append_assoc], below2 (below_dN hb 1) (below2 HB2.out HB3.out)⟩
      case measure => simp [intOf]; omega
    · have hke : k = n := by omega
      have n1 : ¬ (k : Int) < (n : Int) := by omega
      have d1 : decide ((k : Int) < (n : Int)) = false := decide_eq_false n1
      subst hke
      go_wp2
      go_ret
      exact ⟨by rw [← HSE.out]; rfl, hb⟩
end Cmd
end Go.Proofs.YtbjlkeneeodghaaDoor
