/- The reference's word on whether a blueprint may be; one blueprint with numbers beside it. -/
import Derived.Test.YtblefohjnmmpmaaRecE
import Derived.Test.YtblefohjnmmpmaaRecC
namespace Go.Proofs.Ytblefohjnmmpmaa
open Go.RowKit
namespace Rec
theorem bchk_two (b : BlueIn) (types : Int) : bchk b types = 0 ∨ bchk b types = 1 := by
  show bchk b types = 0 ∨ _
  unfold bchk
  split <;> simp
theorem fits7 (b : BlueIn) (types : Int) : fitsTo (bnds b types) 7 = (inB (types, 0, 32) && inB (b.makes, 1, types) && inB (b.per, 1, 1048576) && inB (b.time, 1, 1048576) && inB (b.copy, 0, 1048576) && inB (b.study, 0, 1048576) && inB (b.most, 1, 1000)) := by
  show (true && _ && _ && _ && _ && _ && _ && _) = _
  rw [Bool.true_and]
  rfl
theorem fits7_no (b : BlueIn) (types : Int) (h : inB (types, 0, 32) = false ∨ inB (b.makes, 1, types) = false ∨ inB (b.per, 1, 1048576) = false ∨ inB (b.time, 1, 1048576) = false ∨ inB (b.copy, 0, 1048576) = false ∨ inB (b.study, 0, 1048576) = false ∨ inB (b.most, 1, 1000) = false) : bchk b types = 1 := by
  unfold bchk
  rw [fits7]
  rcases h with h | h | h | h | h | h | h <;> rw [h] <;> simp
set_option maxRecDepth 100000 in
set_option maxHeartbeats 4000000 in
theorem refCheck12_any (b : BlueIn) (types : Int) (w : World) (hb : Came w b) :
    Calls Try.prog 16 #[.agg b.val, .int .i64 types] w fun e w' => e = .returned (.int .i64 (bchk b types)) ∧ Below w.heap.size w w' := by
  have HB := Lib.hid hb
  have NO : Hid (inB (types, 0, 32) = false ∨ inB (b.makes, 1, types) = false ∨ inB (b.per, 1, 1048576) = false ∨ inB (b.time, 1, 1048576) = false ∨ inB (b.copy, 0, 1048576) = false ∨ inB (b.study, 0, 1048576) = false ∨ inB (b.most, 1, 1000) = false → bchk b types = 1) := fits7_no b types
  have HS : Hid (bchk b types = if (inB (types, 0, 32) && inB (b.makes, 1, types) && inB (b.per, 1, 1048576) && inB (b.time, 1, 1048576) && inB (b.copy, 0, 1048576) && inB (b.study, 0, 1048576) && inB (b.most, 1, 1000)) && (decide (chk b.needs types = 0) && decide (cnt b.needs b.makes b.needs.length = 0)) then 0 else 1) := by
    show bchk b types = _
    unfold bchk
    rw [fits7]
  have C1 : Hid (∀ W : World, Below w.heap.size w W → Calls Try.prog 31 #[.slice b.addr b.needs.length b.cap, .int .i64 types] W fun e w' => e = .returned (.int .i64 (chk b.needs types)) ∧ Below W.heap.size W w') := fun W h => refCheck_any _ _ _ HB.out.1 _ _ (HB.out.2.1.below h)
  have C2 : Hid (chk b.needs types = 0 → ∀ W : World, Below w.heap.size w W → Calls Try.prog 32 #[.slice b.addr b.needs.length b.cap, .int .i64 b.makes] W fun e w' => e = .returned (.int .i64 (cnt b.needs b.makes b.needs.length)) ∧ Below W.heap.size W w') := fun hc W h => refCount_any _ _ _ HB.out.1 (chk_fair _ _ hc) _ _ (HB.out.2.1.below h)
  have C3 : Hid (chk b.needs types = 0 → 0 ≤ cnt b.needs b.makes b.needs.length) := fun hc => cnt_nonneg _ (chk_fair _ _ hc) _ _ (Nat.le_refl _)
  have C4 : Hid (chk b.needs types = 0 ∨ chk b.needs types = 1) := by show _ ∨ _; unfold chk; split <;> simp
  have I0 : Hid (∀ W : World, Calls Try.prog 26 #[.int .i64 types, .int .i64 0, .int .i64 32] W fun e w' => e = .returned (.bool (inB (types, 0, 32))) ∧ W = w') := in_any _ _ _
  have I1 : Hid (∀ W : World, Calls Try.prog 26 #[.int .i64 b.makes, .int .i64 1, .int .i64 types] W fun e w' => e = .returned (.bool (inB (b.makes, 1, types))) ∧ W = w') := in_any _ _ _
  have I2 : Hid (∀ W : World, Calls Try.prog 26 #[.int .i64 b.per, .int .i64 1, .int .i64 1048576] W fun e w' => e = .returned (.bool (inB (b.per, 1, 1048576))) ∧ W = w') := in_any _ _ _
  have I3 : Hid (∀ W : World, Calls Try.prog 26 #[.int .i64 b.time, .int .i64 1, .int .i64 1048576] W fun e w' => e = .returned (.bool (inB (b.time, 1, 1048576))) ∧ W = w') := in_any _ _ _
  have I4 : Hid (∀ W : World, Calls Try.prog 26 #[.int .i64 b.copy, .int .i64 0, .int .i64 1048576] W fun e w' => e = .returned (.bool (inB (b.copy, 0, 1048576))) ∧ W = w') := in_any _ _ _
  have I5 : Hid (∀ W : World, Calls Try.prog 26 #[.int .i64 b.study, .int .i64 0, .int .i64 1048576] W fun e w' => e = .returned (.bool (inB (b.study, 0, 1048576))) ∧ W = w') := in_any _ _ _
  have I6 : Hid (∀ W : World, Calls Try.prog 26 #[.int .i64 b.most, .int .i64 1, .int .i64 1000] W fun e w' => e = .returned (.bool (inB (b.most, 1, 1000))) ∧ W = w') := in_any _ _ _
  generalize bchk b types = R at *
  generalize chk b.needs types = K at *
  generalize cnt b.needs b.makes b.needs.length = N at *
  generalize inB (types, 0, 32) = F0 at *
  generalize inB (b.makes, 1, types) = F1 at *
  generalize inB (b.per, 1, 1048576) = F2 at *
  generalize inB (b.time, 1, 1048576) = F3 at *
  generalize inB (b.copy, 0, 1048576) = F4 at *
  generalize inB (b.study, 0, 1048576) = F5 at *
  generalize inB (b.most, 1, 1000) = F6 at *
  unfold BlueIn.val
  clear hb
  cases F0
  · have HR : Hid (R = 1) := NO.out (Or.inl rfl)
    go_enter Try.func16, Try.ntmps16
    go_wp2_with (go_at_call 26; ((first | (with_reducible refine (I0.out _).mono ?_)); rintro e w1 ⟨rfl, rfl⟩))
    go_ret
    exact ⟨by rw [HR.out]; rfl, (Below.refl _ _).alloc (Nat.le_refl _) _⟩
  cases F1
  · have HR : Hid (R = 1) := NO.out (Or.inr (Or.inl rfl))
    go_enter Try.func16, Try.ntmps16
    go_wp2_with (go_at_call 26; ((first | (with_reducible refine (I0.out _).mono ?_) | (with_reducible refine (I1.out _).mono ?_)); rintro e w1 ⟨rfl, rfl⟩))
    go_ret
    exact ⟨by rw [HR.out]; rfl, (Below.refl _ _).alloc (Nat.le_refl _) _⟩
  cases F2
  · have HR : Hid (R = 1) := NO.out (Or.inr (Or.inr (Or.inl rfl)))
    go_enter Try.func16, Try.ntmps16
    go_wp2_with (go_at_call 26; ((first | (with_reducible refine (I0.out _).mono ?_) | (with_reducible refine (I1.out _).mono ?_) | (with_reducible refine (I2.out _).mono ?_)); rintro e w1 ⟨rfl, rfl⟩))
    go_ret
    exact ⟨by rw [HR.out]; rfl, (Below.refl _ _).alloc (Nat.le_refl _) _⟩
  cases F3
  · have HR : Hid (R = 1) := NO.out (Or.inr (Or.inr (Or.inr (Or.inl rfl))))
    go_enter Try.func16, Try.ntmps16
    go_wp2_with (go_at_call 26; ((first | (with_reducible refine (I0.out _).mono ?_) | (with_reducible refine (I1.out _).mono ?_) | (with_reducible refine (I2.out _).mono ?_) | (with_reducible refine (I3.out _).mono ?_)); rintro e w1 ⟨rfl, rfl⟩))
    go_ret
    exact ⟨by rw [HR.out]; rfl, (Below.refl _ _).alloc (Nat.le_refl _) _⟩
  cases F4
  · have HR : Hid (R = 1) := NO.out (Or.inr (Or.inr (Or.inr (Or.inr (Or.inl rfl)))))
    go_enter Try.func16, Try.ntmps16
    go_wp2_with (go_at_call 26; ((first | (with_reducible refine (I0.out _).mono ?_) | (with_reducible refine (I1.out _).mono ?_) | (with_reducible refine (I2.out _).mono ?_) | (with_reducible refine (I3.out _).mono ?_) | (with_reducible refine (I4.out _).mono ?_)); rintro e w1 ⟨rfl, rfl⟩))
    go_ret
    exact ⟨by rw [HR.out]; rfl, (Below.refl _ _).alloc (Nat.le_refl _) _⟩
  cases F5
  · have HR : Hid (R = 1) := NO.out (Or.inr (Or.inr (Or.inr (Or.inr (Or.inr (Or.inl rfl))))))
    go_enter Try.func16, Try.ntmps16
    go_wp2_with (go_at_call 26; ((first | (with_reducible refine (I0.out _).mono ?_) | (with_reducible refine (I1.out _).mono ?_) | (with_reducible refine (I2.out _).mono ?_) | (with_reducible refine (I3.out _).mono ?_) | (with_reducible refine (I4.out _).mono ?_) | (with_reducible refine (I5.out _).mono ?_)); rintro e w1 ⟨rfl, rfl⟩))
    go_ret
    exact ⟨by rw [HR.out]; rfl, (Below.refl _ _).alloc (Nat.le_refl _) _⟩
  cases F6
  · have HR : Hid (R = 1) := NO.out (Or.inr (Or.inr (Or.inr (Or.inr (Or.inr (Or.inr (rfl)))))))
    go_enter Try.func16, Try.ntmps16
    go_wp2_with (go_at_call 26; ((first | (with_reducible refine (I0.out _).mono ?_) | (with_reducible refine (I1.out _).mono ?_) | (with_reducible refine (I2.out _).mono ?_) | (with_reducible refine (I3.out _).mono ?_) | (with_reducible refine (I4.out _).mono ?_) | (with_reducible refine (I5.out _).mono ?_) | (with_reducible refine (I6.out _).mono ?_)); rintro e w1 ⟨rfl, rfl⟩))
    go_ret
    exact ⟨by rw [HR.out]; rfl, (Below.refl _ _).alloc (Nat.le_refl _) _⟩
  rcases C4.out with rfl | rfl
  · replace C3 := Lib.hid (C3.out rfl)
    replace C2 := Lib.hid (C2.out rfl)
    by_cases h0 : N = 0
    · have HR : Hid (R = 0) := by show R = 0; rw [HS.out, h0]; rfl
      subst h0
      go_enter Try.func16, Try.ntmps16
      go_wp2_with (first | (go_at_call 26; ((first | (with_reducible refine (I0.out _).mono ?_) | (with_reducible refine (I1.out _).mono ?_) | (with_reducible refine (I2.out _).mono ?_) | (with_reducible refine (I3.out _).mono ?_) | (with_reducible refine (I4.out _).mono ?_) | (with_reducible refine (I5.out _).mono ?_) | (with_reducible refine (I6.out _).mono ?_)); rintro e w1 ⟨rfl, rfl⟩)) | (go_at_call 31; ((with_reducible refine (C1.out _ ((Below.refl w.heap.size w).alloc (Nat.le_refl _) _)).mono ?_); rintro e w2 ⟨rfl, hb2⟩; have hb2' := ((Below.refl w.heap.size w).alloc (Nat.le_refl _) _).trans (hb2.mono (by simp)); have s1 := Lib.hid (box_lt hb2); have c0 := box_cell hb2 0; have c3 := box_cell hb2 3; simp only [List.getElem?_toArray, List.getElem?_cons_zero, List.getElem?_cons_succ] at c0 c3)) | (go_at_call 32; ((with_reducible refine (C2.out _ hb2').mono ?_); rintro e w3 ⟨rfl, hb3⟩)))
      go_ret
      exact ⟨by rw [HR.out]; rfl, below2 hb2' hb3⟩
    · have HR : Hid (R = 1) := by show R = 1; rw [HS.out, decide_eq_false h0]; rfl
      have hN : 0 < N := by have := C3.out; omega
      have dN : decide (0 < N) = true := decide_eq_true hN
      go_enter Try.func16, Try.ntmps16
      go_wp2_with (first | (go_at_call 26; ((first | (with_reducible refine (I0.out _).mono ?_) | (with_reducible refine (I1.out _).mono ?_) | (with_reducible refine (I2.out _).mono ?_) | (with_reducible refine (I3.out _).mono ?_) | (with_reducible refine (I4.out _).mono ?_) | (with_reducible refine (I5.out _).mono ?_) | (with_reducible refine (I6.out _).mono ?_)); rintro e w1 ⟨rfl, rfl⟩)) | (go_at_call 31; ((with_reducible refine (C1.out _ ((Below.refl w.heap.size w).alloc (Nat.le_refl _) _)).mono ?_); rintro e w2 ⟨rfl, hb2⟩; have hb2' := ((Below.refl w.heap.size w).alloc (Nat.le_refl _) _).trans (hb2.mono (by simp)); have s1 := Lib.hid (box_lt hb2); have c0 := box_cell hb2 0; have c3 := box_cell hb2 3; simp only [List.getElem?_toArray, List.getElem?_cons_zero, List.getElem?_cons_succ] at c0 c3)) | (go_at_call 32; ((with_reducible refine (C2.out _ hb2').mono ?_); rintro e w3 ⟨rfl, hb3⟩)))
      go_ret
      exact ⟨by rw [HR.out]; rfl, below2 hb2' hb3⟩
  · have HR : Hid (R = 1) := by show R = 1; rw [HS.out]; rfl
    go_enter Try.func16, Try.ntmps16
    go_wp2_with (first | (go_at_call 26; ((first | (with_reducible refine (I0.out _).mono ?_) | (with_reducible refine (I1.out _).mono ?_) | (with_reducible refine (I2.out _).mono ?_) | (with_reducible refine (I3.out _).mono ?_) | (with_reducible refine (I4.out _).mono ?_) | (with_reducible refine (I5.out _).mono ?_) | (with_reducible refine (I6.out _).mono ?_)); rintro e w1 ⟨rfl, rfl⟩)) | (go_at_call 31; ((with_reducible refine (C1.out _ ((Below.refl w.heap.size w).alloc (Nat.le_refl _) _)).mono ?_); rintro e w2 ⟨rfl, hb2⟩; have hb2' := ((Below.refl w.heap.size w).alloc (Nat.le_refl _) _).trans (hb2.mono (by simp)); have s1 := Lib.hid (box_lt hb2); have c0 := box_cell hb2 0; have c3 := box_cell hb2 3; simp only [List.getElem?_toArray, List.getElem?_cons_zero, List.getElem?_cons_succ] at c0 c3)))
    go_ret
    exact ⟨by rw [HR.out]; rfl, hb2'⟩
end Rec
end Go.Proofs.Ytblefohjnmmpmaa
