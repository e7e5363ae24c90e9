/- Texts put together: RecB, RecEi, RecE2, FeeK, InI. -/
import Derived.Test.YtiabnjmblcogmaaM01
import Derived.IntWalk
import Derived.Test.YtiabnjmblcogmaaChecked
import Derived.WalkKit
import Derived.WalkLawsBesides
import Derived.Below
import Derived.Lib.Hide
import Derived.ProofKit
import Derived.ChangeSlices
set_option linter.all false
section
namespace Go.Proofs.Ytiabnjmblcogmaa
open Go.RowKit
namespace Rec
/-- A blueprint, as it comes in. -/
structure BlueIn where
  makes : Int
  per : Int
  time : Int
  needs : List Stk
  addr : Option Addr
  cap : Nat
  copy : Int
  study : Int
  most : Int
def BlueIn.val (b : BlueIn) : Array Value := #[.int .i64 b.makes, .int .i64 b.per, .int .i64 b.time, .slice b.addr b.needs.length b.cap, .int .i64 b.copy, .int .i64 b.study, .int .i64 b.most]
def bnds (b : BlueIn) (types : Int) : List Bnd := [(types, 0, 32), (b.makes, 1, types), (b.per, 1, 1048576), (b.time, 1, 1048576), (b.copy, 0, 1048576), (b.study, 0, 1048576), (b.most, 1, 1000)]
/-- What a check of a blueprint answers. -/
def bchk (b : BlueIn) (types : Int) : Int := if fitsTo (bnds b types) 7 && (decide (chk b.needs types = 0) && decide (cnt b.needs b.makes b.needs.length = 0)) then 0 else 1
/-- Needs that came in lie as they did. -/
def Came (w : World) (b : BlueIn) : Prop := b.needs.length ≤ 12 ∧ Stks w b.addr b.needs ∧ (∀ k, k < b.needs.length → (Lit.int .i64 (b.needs.getD k (0, 0)).1).wf = true) ∧ (Lit.int .i64 b.makes).wf = true
theorem chk_fair (l : List Stk) (types : Int) (h : chk l types = 0) : Fair l := by
  cases hg : goodTo l types l.length
  · unfold chk at h; rw [hg] at h; cases h
  · exact fair_of l types hg
theorem cnt_nonneg (l : List Stk) (hf : Fair l) (x : Int) (k : Nat) (hk : k ≤ l.length) : 0 ≤ cnt l x k := by
  induction k with
  | zero => exact Int.le_refl 0
  | succ k ih =>
    rw [cnt]
    have := (hf k (by omega)).2.1
    split
    · omega
    · exact ih (by omega)
/-- Seven bounds in a block of their own. -/
theorem bnds_new (W : World) (b : BlueIn) (types : Int) (t : TypeId) : Bnds (W.alloc (.cells #[.int .i64 types, .int .i64 0, .int .i64 32, .int .i64 b.makes, .int .i64 1, .int .i64 types, .int .i64 b.per, .int .i64 1, .int .i64 1048576, .int .i64 b.time, .int .i64 1, .int .i64 1048576, .int .i64 b.copy, .int .i64 0, .int .i64 1048576, .int .i64 b.study, .int .i64 0, .int .i64 1048576, .int .i64 b.most, .int .i64 1, .int .i64 1000] t)) (some ⟨W.heap.size, 0, none⟩) (bnds b types) := by
  intro i hi
  refine ⟨W.heap.size, 0, rfl, by rw [World.size_alloc]; omega, ?_⟩
  match i, hi with
  | 0, _ => go_simp; exact ⟨rfl, rfl, rfl⟩
  | 1, _ => go_simp; exact ⟨rfl, rfl, rfl⟩
  | 2, _ => go_simp; exact ⟨rfl, rfl, rfl⟩
  | 3, _ => go_simp; exact ⟨rfl, rfl, rfl⟩
  | 4, _ => go_simp; exact ⟨rfl, rfl, rfl⟩
  | 5, _ => go_simp; exact ⟨rfl, rfl, rfl⟩
  | 6, _ => go_simp; exact ⟨rfl, rfl, rfl⟩
/-- A box stays as it is over a call behind it. -/
theorem box_cell {w w1 : World} {cs : Array Value} {t : TypeId} (h : Below (w.alloc (.cells cs t)).heap.size (w.alloc (.cells cs t)) w1) (i : Nat) : w1.cell? ⟨w.heap.size, i, none⟩ = cs[i]? := by
  refine (h.cell (by rw [World.size_alloc]; exact Nat.lt_succ_self _)).trans ?_
  go_simp
theorem box_lt {w w1 : World} {cs : Array Value} {t : TypeId} (h : Below (w.alloc (.cells cs t)).heap.size (w.alloc (.cells cs t)) w1) : w.heap.size < w1.heap.size := by
  have := h.size
  rw [World.size_alloc] at this
  omega
set_option maxRecDepth 100000 in
set_option maxHeartbeats 2000000 in
theorem check_any (b : BlueIn) (types : Int) (w : World) (hb : Came w b) :
    Calls Try.prog 77 #[.agg b.val, .int .i64 types] w fun e w' => e = .returned (.int .i64 (bchk b types)) ∧ Below w.heap.size w w' := by
  have HB := Lib.hid hb
  have CF : Hid (∀ (W : World) (t : TypeId) (g : Nat), g = W.heap.size → Calls Try.prog 87 #[.slice (some ⟨g, 0, none⟩) 7 7] (W.alloc (.cells #[.int .i64 types, .int .i64 0, .int .i64 32, .int .i64 b.makes, .int .i64 1, .int .i64 types, .int .i64 b.per, .int .i64 1, .int .i64 1048576, .int .i64 b.time, .int .i64 1, .int .i64 1048576, .int .i64 b.copy, .int .i64 0, .int .i64 1048576, .int .i64 b.study, .int .i64 0, .int .i64 1048576, .int .i64 b.most, .int .i64 1, .int .i64 1000] t)) fun e w' => e = .returned (.bool (fitsTo (bnds b types) 7)) ∧ Below W.heap.size W w') := by
    intro W t g hg
    subst hg
    refine (fits_any _ 7 (bnds b types) (by unfold maxLen; show 7 ≤ _; omega) _ (bnds_new W b types t)).mono fun e w' ⟨h1, h2⟩ => ⟨h1, ((Below.refl _ _).alloc (Nat.le_refl _) _).trans (h2.mono (by rw [World.size_alloc]; omega))⟩
  have HS : Hid (bchk b types = if fitsTo (bnds b types) 7 && (decide (chk b.needs types = 0) && decide (cnt b.needs b.makes b.needs.length = 0)) then 0 else 1) := rfl
  have C1 : Hid (∀ W : World, Below w.heap.size w W → Calls Try.prog 90 #[.slice b.addr b.needs.length b.cap, .int .i64 types] W fun e w' => e = .returned (.int .i64 (chk b.needs types)) ∧ Below W.heap.size W w') := fun W h => goodsCheck_any _ _ _ (by have := HB.out.1; unfold maxLen; omega) _ _ (HB.out.2.1.below h)
  have C2 : Hid (chk b.needs types = 0 → ∀ W : World, Below w.heap.size w W → Calls Try.prog 91 #[.slice b.addr b.needs.length b.cap, .int .i64 b.makes] W fun e w' => e = .returned (.int .i64 (cnt b.needs b.makes b.needs.length)) ∧ Below W.heap.size W w') := fun hc W h => count_any _ _ _ (by have := HB.out.1; unfold maxLen; omega) (chk_fair _ _ hc) HB.out.2.2.1 _ HB.out.2.2.2 _ (HB.out.2.1.below h)
  have C3 : Hid (chk b.needs types = 0 → 0 ≤ cnt b.needs b.makes b.needs.length) := fun hc => cnt_nonneg _ (chk_fair _ _ hc) _ _ (Nat.le_refl _)
  have C4 : Hid (chk b.needs types = 0 ∨ chk b.needs types = 1) := by show _ ∨ _; unfold chk; split <;> simp
  generalize bchk b types = R at *
  generalize chk b.needs types = K at *
  generalize cnt b.needs b.makes b.needs.length = N at *
  generalize fitsTo (bnds b types) 7 = F at *
  unfold BlueIn.val
  clear hb
  cases F
  · have HR : Hid (R = 1) := by show R = 1; rw [HS.out]; rfl
    go_enter Try.func77, Try.ntmps77
    go_wp2_with (go_at_call 87; ((with_reducible refine (CF.out _ _ _ (by simp)).mono ?_); rintro e w1 ⟨rfl, hb1⟩))
    go_ret
    exact ⟨by rw [HR.out]; rfl, ((Below.refl _ _).alloc (Nat.le_refl _) _).trans (hb1.mono (by simp))⟩
  · rcases C4.out with rfl | rfl
    · replace C3 := Lib.hid (C3.out rfl)
      replace C2 := Lib.hid (C2.out rfl)
      by_cases h0 : N = 0
      · have HR : Hid (R = 0) := by show R = 0; rw [HS.out, h0]; rfl
        subst h0
        go_enter Try.func77, Try.ntmps77
        go_wp2_with (first
          | (go_at_call 87; ((with_reducible refine (CF.out _ _ _ (by simp)).mono ?_); rintro e w1 ⟨rfl, hb1⟩; have hb1' := ((Below.refl w.heap.size w).alloc (Nat.le_refl _) _).trans (hb1.mono (by simp)); have s1 := Lib.hid (box_lt hb1); have c0 := box_cell hb1 0; have c3 := box_cell hb1 3; simp only [List.getElem?_toArray, List.getElem?_cons_zero, List.getElem?_cons_succ] at c0 c3))
          | (go_at_call 90; ((with_reducible refine (C1.out _ hb1').mono ?_); rintro e w2 ⟨rfl, hb2⟩; have hb2' := below2 hb1' hb2; replace c0 := (hb2.cell s1.out).trans c0; replace c3 := (hb2.cell s1.out).trans c3))
          | (go_at_call 91; ((with_reducible refine (C2.out _ hb2').mono ?_); rintro e w3 ⟨rfl, hb3⟩)))
        go_ret
        exact ⟨by rw [HR.out]; rfl, below2 hb2' hb3⟩
      · have HR : Hid (R = 1) := by show R = 1; rw [HS.out, decide_eq_false h0]; rfl
        have hN : 0 < N := by have := C3.out; omega
        have dN : decide (0 < N) = true := decide_eq_true hN
        go_enter Try.func77, Try.ntmps77
        go_wp2_with (first
          | (go_at_call 87; ((with_reducible refine (CF.out _ _ _ (by simp)).mono ?_); rintro e w1 ⟨rfl, hb1⟩; have hb1' := ((Below.refl w.heap.size w).alloc (Nat.le_refl _) _).trans (hb1.mono (by simp)); have s1 := Lib.hid (box_lt hb1); have c0 := box_cell hb1 0; have c3 := box_cell hb1 3; simp only [List.getElem?_toArray, List.getElem?_cons_zero, List.getElem?_cons_succ] at c0 c3))
          | (go_at_call 90; ((with_reducible refine (C1.out _ hb1').mono ?_); rintro e w2 ⟨rfl, hb2⟩; have hb2' := below2 hb1' hb2; replace c0 := (hb2.cell s1.out).trans c0; replace c3 := (hb2.cell s1.out).trans c3))
          | (go_at_call 91; ((with_reducible refine (C2.out _ hb2').mono ?_); rintro e w3 ⟨rfl, hb3⟩)))
        go_ret
        exact ⟨by rw [HR.out]; rfl, below2 hb2' hb3⟩
    · have HR : Hid (R = 1) := by show R = 1; rw [HS.out]; rfl
      go_enter Try.func77, Try.ntmps77
      go_wp2_with (first
        | (go_at_call 87; ((with_reducible refine (CF.out _ _ _ (by simp)).mono ?_); rintro e w1 ⟨rfl, hb1⟩; have hb1' := ((Below.refl w.heap.size w).alloc (Nat.le_refl _) _).trans (hb1.mono (by simp)); have s1 := Lib.hid (box_lt hb1); have c0 := box_cell hb1 0; have c3 := box_cell hb1 3; simp only [List.getElem?_toArray, List.getElem?_cons_zero, List.getElem?_cons_succ] at c0 c3))
        | (go_at_call 90; ((with_reducible refine (C1.out _ hb1').mono ?_); rintro e w2 ⟨rfl, hb2⟩; have hb2' := below2 hb1' hb2; replace c0 := (hb2.cell s1.out).trans c0; replace c3 := (hb2.cell s1.out).trans c3)))
      go_ret
      exact ⟨by rw [HR.out]; rfl, hb2'⟩
end Rec
end Go.Proofs.Ytiabnjmblcogmaa
end
section
namespace Go.Proofs.Ytiabnjmblcogmaa
open Go.RowKit
namespace Rec
theorem in_any (n f t : Int) (w : World) :
    Calls Try.prog 66 #[.int .i64 n, .int .i64 f, .int .i64 t] w fun e w' => e = .returned (.bool (inB (n, f, t))) ∧ w = w' := by
  have HI : Hid (inB (n, f, t) = (decide (f ≤ n) && decide (n ≤ t))) := rfl
  generalize inB (n, f, t) = B at *
  by_cases h1 : f ≤ n
  · by_cases h2 : n ≤ t
    · have HB : Hid (B = true) := by show B = true; rw [HI.out, decide_eq_true h1, decide_eq_true h2]; rfl
      have d1 := decide_eq_true h1
      have d2 := decide_eq_true h2
      go_enter Try.func66, Try.ntmps66
      go_wp2
      go_ret
      exact ⟨by rw [HB.out]; rfl, rfl⟩
    · have HB : Hid (B = false) := by show B = false; rw [HI.out, decide_eq_false h2]; simp
      have d1 := decide_eq_true h1
      have d2 := decide_eq_false h2
      go_enter Try.func66, Try.ntmps66
      go_wp2
      go_ret
      exact ⟨by rw [HB.out]; rfl, rfl⟩
  · have HB : Hid (B = false) := by show B = false; rw [HI.out, decide_eq_false h1]; rfl
    have d1 := decide_eq_false h1
    go_enter Try.func66, Try.ntmps66
    go_wp2
    go_ret
    exact ⟨by rw [HB.out]; rfl, rfl⟩
end Rec
end Go.Proofs.Ytiabnjmblcogmaa
end
section
namespace Go.Proofs.Ytiabnjmblcogmaa
open Go.RowKit
namespace Rec
theorem bchk_two (b : BlueIn) (types : Int) : bchk b types = 0 ∨ bchk b types = 1 := by
  show bchk b types = 0 ∨ _
  unfold bchk
  split <;> simp
theorem fits7 (b : BlueIn) (types : Int) : fitsTo (bnds b types) 7 = (inB (types, 0, 32) && inB (b.makes, 1, types) && inB (b.per, 1, 1048576) && inB (b.time, 1, 1048576) && inB (b.copy, 0, 1048576) && inB (b.study, 0, 1048576) && inB (b.most, 1, 1000)) := by
  show (true && _ && _ && _ && _ && _ && _ && _) = _
  rw [Bool.true_and]
  rfl
theorem fits7_no (b : BlueIn) (types : Int) (h : inB (types, 0, 32) = false ∨ inB (b.makes, 1, types) = false ∨ inB (b.per, 1, 1048576) = false ∨ inB (b.time, 1, 1048576) = false ∨ inB (b.copy, 0, 1048576) = false ∨ inB (b.study, 0, 1048576) = false ∨ inB (b.most, 1, 1000) = false) : bchk b types = 1 := by
  unfold bchk
  rw [fits7]
  rcases h with h | h | h | h | h | h | h <;> rw [h] <;> simp
set_option maxRecDepth 100000 in
set_option maxHeartbeats 4000000 in
theorem refCheck12_any (b : BlueIn) (types : Int) (w : World) (hb : Came w b) :
    Calls Try.prog 61 #[.agg b.val, .int .i64 types] w fun e w' => e = .returned (.int .i64 (bchk b types)) ∧ Below w.heap.size w w' := by
  have HB := Lib.hid hb
  have NO : Hid (inB (types, 0, 32) = false ∨ inB (b.makes, 1, types) = false ∨ inB (b.per, 1, 1048576) = false ∨ inB (b.time, 1, 1048576) = false ∨ inB (b.copy, 0, 1048576) = false ∨ inB (b.study, 0, 1048576) = false ∨ inB (b.most, 1, 1000) = false → bchk b types = 1) := fits7_no b types
  have HS : Hid (bchk b types = if (inB (types, 0, 32) && inB (b.makes, 1, types) && inB (b.per, 1, 1048576) && inB (b.time, 1, 1048576) && inB (b.copy, 0, 1048576) && inB (b.study, 0, 1048576) && inB (b.most, 1, 1000)) && (decide (chk b.needs types = 0) && decide (cnt b.needs b.makes b.needs.length = 0)) then 0 else 1) := by
    show bchk b types = _
    unfold bchk
    rw [fits7]
  have C1 : Hid (∀ W : World, Below w.heap.size w W → Calls Try.prog 65 #[.slice b.addr b.needs.length b.cap, .int .i64 types] W fun e w' => e = .returned (.int .i64 (chk b.needs types)) ∧ Below W.heap.size W w') := fun W h => refCheck_any _ _ _ HB.out.1 _ _ (HB.out.2.1.below h)
  have C2 : Hid (chk b.needs types = 0 → ∀ W : World, Below w.heap.size w W → Calls Try.prog 83 #[.slice b.addr b.needs.length b.cap, .int .i64 b.makes] W fun e w' => e = .returned (.int .i64 (cnt b.needs b.makes b.needs.length)) ∧ Below W.heap.size W w') := fun hc W h => refCount_any _ _ _ HB.out.1 (chk_fair _ _ hc) _ _ (HB.out.2.1.below h)
  have C3 : Hid (chk b.needs types = 0 → 0 ≤ cnt b.needs b.makes b.needs.length) := fun hc => cnt_nonneg _ (chk_fair _ _ hc) _ _ (Nat.le_refl _)
  have C4 : Hid (chk b.needs types = 0 ∨ chk b.needs types = 1) := by show _ ∨ _; unfold chk; split <;> simp
  have I0 : Hid (∀ W : World, Calls Try.prog 66 #[.int .i64 types, .int .i64 0, .int .i64 32] W fun e w' => e = .returned (.bool (inB (types, 0, 32))) ∧ W = w') := in_any _ _ _
  have I1 : Hid (∀ W : World, Calls Try.prog 66 #[.int .i64 b.makes, .int .i64 1, .int .i64 types] W fun e w' => e = .returned (.bool (inB (b.makes, 1, types))) ∧ W = w') := in_any _ _ _
  have I2 : Hid (∀ W : World, Calls Try.prog 66 #[.int .i64 b.per, .int .i64 1, .int .i64 1048576] W fun e w' => e = .returned (.bool (inB (b.per, 1, 1048576))) ∧ W = w') := in_any _ _ _
  have I3 : Hid (∀ W : World, Calls Try.prog 66 #[.int .i64 b.time, .int .i64 1, .int .i64 1048576] W fun e w' => e = .returned (.bool (inB (b.time, 1, 1048576))) ∧ W = w') := in_any _ _ _
  have I4 : Hid (∀ W : World, Calls Try.prog 66 #[.int .i64 b.copy, .int .i64 0, .int .i64 1048576] W fun e w' => e = .returned (.bool (inB (b.copy, 0, 1048576))) ∧ W = w') := in_any _ _ _
  have I5 : Hid (∀ W : World, Calls Try.prog 66 #[.int .i64 b.study, .int .i64 0, .int .i64 1048576] W fun e w' => e = .returned (.bool (inB (b.study, 0, 1048576))) ∧ W = w') := in_any _ _ _
  have I6 : Hid (∀ W : World, Calls Try.prog 66 #[.int .i64 b.most, .int .i64 1, .int .i64 1000] W fun e w' => e = .returned (.bool (inB (b.most, 1, 1000))) ∧ W = w') := in_any _ _ _
  generalize bchk b types = R at *
  generalize chk b.needs types = K at *
  generalize cnt b.needs b.makes b.needs.length = N at *
  generalize inB (types, 0, 32) = F0 at *
  generalize inB (b.makes, 1, types) = F1 at *
  generalize inB (b.per, 1, 1048576) = F2 at *
  generalize inB (b.time, 1, 1048576) = F3 at *
  generalize inB (b.copy, 0, 1048576) = F4 at *
  generalize inB (b.study, 0, 1048576) = F5 at *
  generalize inB (b.most, 1, 1000) = F6 at *
  unfold BlueIn.val
  clear hb
  cases F0
  · have HR : Hid (R = 1) := NO.out (Or.inl rfl)
    go_enter Try.func61, Try.ntmps61
    go_wp2_with (go_at_call 66; ((first | (with_reducible refine (I0.out _).mono ?_)); rintro e w1 ⟨rfl, rfl⟩))
    go_ret
    exact ⟨by rw [HR.out]; rfl, (Below.refl _ _).alloc (Nat.le_refl _) _⟩
  cases F1
  · have HR : Hid (R = 1) := NO.out (Or.inr (Or.inl rfl))
    go_enter Try.func61, Try.ntmps61
    go_wp2_with (go_at_call 66; ((first | (with_reducible refine (I0.out _).mono ?_) | (with_reducible refine (I1.out _).mono ?_)); rintro e w1 ⟨rfl, rfl⟩))
    go_ret
    exact ⟨by rw [HR.out]; rfl, (Below.refl _ _).alloc (Nat.le_refl _) _⟩
  cases F2
  · have HR : Hid (R = 1) := NO.out (Or.inr (Or.inr (Or.inl rfl)))
    go_enter Try.func61, Try.ntmps61
    go_wp2_with (go_at_call 66; ((first | (with_reducible refine (I0.out _).mono ?_) | (with_reducible refine (I1.out _).mono ?_) | (with_reducible refine (I2.out _).mono ?_)); rintro e w1 ⟨rfl, rfl⟩))
    go_ret
    exact ⟨by rw [HR.out]; rfl, (Below.refl _ _).alloc (Nat.le_refl _) _⟩
  cases F3
  · have HR : Hid (R = 1) := NO.out (Or.inr (Or.inr (Or.inr (Or.inl rfl))))
    go_enter Try.func61, Try.ntmps61
    go_wp2_with (go_at_call 66; ((first | (with_reducible refine (I0.out _).mono ?_) | (with_reducible refine (I1.out _).mono ?_) | (with_reducible refine (I2.out _).mono ?_) | (with_reducible refine (I3.out _).mono ?_)); rintro e w1 ⟨rfl, rfl⟩))
    go_ret
    exact ⟨by rw [HR.out]; rfl, (Below.refl _ _).alloc (Nat.le_refl _) _⟩
  cases F4
  · have HR : Hid (R = 1) := NO.out (Or.inr (Or.inr (Or.inr (Or.inr (Or.inl rfl)))))
    go_enter Try.func61, Try.ntmps61
    go_wp2_with (go_at_call 66; ((first | (with_reducible refine (I0.out _).mono ?_) | (with_reducible refine (I1.out _).mono ?_) | (with_reducible refine (I2.out _).mono ?_) | (with_reducible refine (I3.out _).mono ?_) | (with_reducible refine (I4.out _).mono ?_)); rintro e w1 ⟨rfl, rfl⟩))
    go_ret
    exact ⟨by rw [HR.out]; rfl, (Below.refl _ _).alloc (Nat.le_refl _) _⟩
  cases F5
  · have HR : Hid (R = 1) := NO.out (Or.inr (Or.inr (Or.inr (Or.inr (Or.inr (Or.inl rfl))))))
    go_enter Try.func61, Try.ntmps61
    go_wp2_with (go_at_call 66; ((first | (with_reducible refine (I0.out _).mono ?_) | (with_reducible refine (I1.out _).mono ?_) | (with_reducible refine (I2.out _).mono ?_) | (with_reducible refine (I3.out _).mono ?_) | (with_reducible refine (I4.out _).mono ?_) | (with_reducible refine (I5.out _).mono ?_)); rintro e w1 ⟨rfl, rfl⟩))
    go_ret
    exact ⟨by rw [HR.out]; rfl, (Below.refl _ _).alloc (Nat.le_refl _) _⟩
  cases F6
  · have HR : Hid (R = 1) := NO.out (Or.inr (Or.inr (Or.inr (Or.inr (Or.inr (Or.inr (rfl)))))))
    go_enter Try.func61, Try.ntmps61
    go_wp2_with (go_at_call 66; ((first | (with_reducible refine (I0.out _).mono ?_) | (with_reducible refine (I1.out _).mono ?_) | (with_reducible refine (I2.out _).mono ?_) | (with_reducible refine (I3.out _).mono ?_) | (with_reducible refine (I4.out _).mono ?_) | (with_reducible refine (I5.out _).mono ?_) | (with_reducible refine (I6.out _).mono ?_)); rintro e w1 ⟨rfl, rfl⟩))
    go_ret
    exact ⟨by rw [HR.out]; rfl, (Below.refl _ _).alloc (Nat.le_refl _) _⟩
  rcases C4.out with rfl | rfl
  · replace C3 := Lib.hid (C3.out rfl)
    replace C2 := Lib.hid (C2.out rfl)
    by_cases h0 : N = 0
    · have HR : Hid (R = 0) := by show R = 0; rw [HS.out, h0]; rfl
      subst h0
      go_enter Try.func61, Try.ntmps61
      go_wp2_with (first | (go_at_call 66; ((first | (with_reducible refine (I0.out _).mono ?_) | (with_reducible refine (I1.out _).mono ?_) | (with_reducible refine (I2.out _).mono ?_) | (with_reducible refine (I3.out _).mono ?_) | (with_reducible refine (I4.out _).mono ?_) | (with_reducible refine (I5.out _).mono ?_) | (with_reducible refine (I6.out _).mono ?_)); rintro e w1 ⟨rfl, rfl⟩)) | (go_at_call 65; ((with_reducible refine (C1.out _ ((Below.refl w.heap.size w).alloc (Nat.le_refl _) _)).mono ?_); rintro e w2 ⟨rfl, hb2⟩; have hb2' := ((Below.refl w.heap.size w).alloc (Nat.le_refl _) _).trans (hb2.mono (by simp)); have s1 := Lib.hid (box_lt hb2); have c0 := box_cell hb2 0; have c3 := box_cell hb2 3; simp only [List.getElem?_toArray, List.getElem?_cons_zero, List.getElem?_cons_succ] at c0 c3)) | (go_at_call 83; ((with_reducible refine (C2.out _ hb2').mono ?_); rintro e w3 ⟨rfl, hb3⟩)))
      go_ret
      exact ⟨by rw [HR.out]; rfl, below2 hb2' hb3⟩
    · have HR : Hid (R = 1) := by show R = 1; rw [HS.out, decide_eq_false h0]; rfl
      have hN : 0 < N := by have := C3.out; omega
      have dN : decide (0 < N) = true := decide_eq_true hN
      go_enter Try.func61, Try.ntmps61
      go_wp2_with (first | (go_at_call 66; ((first | (with_reducible refine (I0.out _).mono ?_) | (with_reducible refine (I1.out _).mono ?_) | (with_reducible refine (I2.out _).mono ?_) | (with_reducible refine (I3.out _).mono ?_) | (with_reducible refine (I4.out _).mono ?_) | (with_reducible refine (I5.out _).mono ?_) | (with_reducible refine (I6.out _).mono ?_)); rintro e w1 ⟨rfl, rfl⟩)) | (go_at_call 65; ((with_reducible refine (C1.out _ ((Below.refl w.heap.size w).alloc (Nat.le_refl _) _)).mono ?_); rintro e w2 ⟨rfl, hb2⟩; have hb2' := ((Below.refl w.heap.size w).alloc (Nat.le_refl _) _).trans (hb2.mono (by simp)); have s1 := Lib.hid (box_lt hb2); have c0 := box_cell hb2 0; have c3 := box_cell hb2 3; simp only [List.getElem?_toArray, List.getElem?_cons_zero, List.getElem?_cons_succ] at c0 c3)) | (go_at_call 83; ((with_reducible refine (C2.out _ hb2').mono ?_); rintro e w3 ⟨rfl, hb3⟩)))
      go_ret
      exact ⟨by rw [HR.out]; rfl, below2 hb2' hb3⟩
  · have HR : Hid (R = 1) := by show R = 1; rw [HS.out]; rfl
    go_enter Try.func61, Try.ntmps61
    go_wp2_with (first | (go_at_call 66; ((first | (with_reducible refine (I0.out _).mono ?_) | (with_reducible refine (I1.out _).mono ?_) | (with_reducible refine (I2.out _).mono ?_) | (with_reducible refine (I3.out _).mono ?_) | (with_reducible refine (I4.out _).mono ?_) | (with_reducible refine (I5.out _).mono ?_) | (with_reducible refine (I6.out _).mono ?_)); rintro e w1 ⟨rfl, rfl⟩)) | (go_at_call 65; ((with_reducible refine (C1.out _ ((Below.refl w.heap.size w).alloc (Nat.le_refl _) _)).mono ?_); rintro e w2 ⟨rfl, hb2⟩; have hb2' := ((Below.refl w.heap.size w).alloc (Nat.le_refl _) _).trans (hb2.mono (by simp)); have s1 := Lib.hid (box_lt hb2); have c0 := box_cell hb2 0; have c3 := box_cell hb2 3; simp only [List.getElem?_toArray, List.getElem?_cons_zero, List.getElem?_cons_succ] at c0 c3)))
    go_ret
    exact ⟨by rw [HR.out]; rfl, hb2'⟩
end Rec
end Go.Proofs.Ytiabnjmblcogmaa
end
section
namespace Go.Proofs.Ytiabnjmblcogmaa
open Go.RowKit
namespace Fee
theorem below2 {w a b : World} (h : Below w.heap.size w a) (h2 : Below a.heap.size a b) : Below w.heap.size w b := h.trans (h2.mono h.size)
theorem below_al {w x : World} (h : Below w.heap.size w x) (o : Obj) : Below w.heap.size w (x.alloc o) := h.alloc h.size o
theorem box_cell {w w1 : World} {cs : Array Value} {t : TypeId} (h : Below (w.alloc (.cells cs t)).heap.size (w.alloc (.cells cs t)) w1) (i : Nat) : w1.cell? ⟨w.heap.size, i, none⟩ = cs[i]? := by
  refine (h.cell (by rw [World.size_alloc]; exact Nat.lt_succ_self _)).trans ?_
  go_simp
theorem box_lt {w w1 : World} {cs : Array Value} {t : TypeId} (h : Below (w.alloc (.cells cs t)).heap.size (w.alloc (.cells cs t)) w1) : w.heap.size < w1.heap.size := by
  have := h.size
  rw [World.size_alloc] at this
  omega
def inR (n hi : Int) : Bool := decide (0 ≤ n) && decide (n ≤ hi)
theorem inR_yes {n hi : Int} (h : inR n hi = true) : 0 ≤ n ∧ n ≤ hi := by
  unfold inR at h
  simpa using h
theorem inR_no {n hi : Int} (h : inR n hi = false) : n < 0 ∨ hi < n := by
  unfold inR at h
  by_cases h1 : n < 0
  · exact .inl h1
  · right
    rw [decide_eq_true (show 0 ≤ n by omega), Bool.true_and] at h
    have := of_decide_eq_false h
    omega
theorem rate_any (n : Int) (w : World) :
    Calls Try.prog 73 #[.int .i64 n] w fun e w' => e = .returned (.bool (inR n 10000)) ∧ w = w' := by
  have HI : Hid (inR n 10000 = (decide (0 ≤ n) && decide (n ≤ 10000))) := rfl
  generalize inR n 10000 = B at *
  by_cases h1 : 0 ≤ n
  · have d1 := decide_eq_true h1
    by_cases h2 : n ≤ 10000
    · have HB : Hid (B = true) := by show B = true; rw [HI.out, decide_eq_true h1, decide_eq_true h2]; rfl
      have d2 := decide_eq_true h2
      clear h1 h2
      go_enter Try.func73, Try.ntmps73
      go_wp2
      go_ret
      exact ⟨by rw [HB.out]; rfl, rfl⟩
    · have HB : Hid (B = false) := by show B = false; rw [HI.out, decide_eq_false h2]; simp
      have d2 := decide_eq_false h2
      clear h1 h2
      go_enter Try.func73, Try.ntmps73
      go_wp2
      go_ret
      exact ⟨by rw [HB.out]; rfl, rfl⟩
  · have HB : Hid (B = false) := by show B = false; rw [HI.out, decide_eq_false h1]; rfl
    have d1 := decide_eq_false h1
    clear h1
    go_enter Try.func73, Try.ntmps73
    go_wp2
    go_ret
    exact ⟨by rw [HB.out]; rfl, rfl⟩
theorem money_any (n : Int) (w : World) :
    Calls Try.prog 93 #[.int .i64 n] w fun e w' => e = .returned (.bool (inR n 1152921504606846976)) ∧ w = w' := by
  have HI : Hid (inR n 1152921504606846976 = (decide (0 ≤ n) && decide (n ≤ 1152921504606846976))) := rfl
  generalize inR n 1152921504606846976 = B at *
  by_cases h1 : 0 ≤ n
  · have d1 := decide_eq_true h1
    by_cases h2 : n ≤ 1152921504606846976
    · have HB : Hid (B = true) := by show B = true; rw [HI.out, decide_eq_true h1, decide_eq_true h2]; rfl
      have d2 := decide_eq_true h2
      clear h1 h2
      go_enter Try.func93, Try.ntmps93
      go_wp2
      go_ret
      exact ⟨by rw [HB.out]; rfl, rfl⟩
    · have HB : Hid (B = false) := by show B = false; rw [HI.out, decide_eq_false h2]; simp
      have d2 := decide_eq_false h2
      clear h1 h2
      go_enter Try.func93, Try.ntmps93
      go_wp2
      go_ret
      exact ⟨by rw [HB.out]; rfl, rfl⟩
  · have HB : Hid (B = false) := by show B = false; rw [HI.out, decide_eq_false h1]; rfl
    have d1 := decide_eq_false h1
    clear h1
    go_enter Try.func93, Try.ntmps93
    go_wp2
    go_ret
    exact ⟨by rw [HB.out]; rfl, rfl⟩
/-- Fees, as they come: of brokers, the least, of sales. -/
structure FeesIn where
  broker : Int
  least : Int
  sales : Int
def FeesIn.val (f : FeesIn) : Array Value := #[.int .i64 f.broker, .int .i64 f.least, .int .i64 f.sales]
def okF (f : FeesIn) : Bool := inR f.broker 10000 && (inR f.sales 10000 && inR f.least 1152921504606846976)
set_option maxHeartbeats 2000000 in
theorem check_any (f : FeesIn) (w : World) :
    Calls Try.prog 81 #[.agg f.val] w fun e w' => e = .returned (.int .i64 (if okF f then 0 else 1)) ∧ Below w.heap.size w w' := by
  have R1 : Hid (∀ W, Calls Try.prog 73 #[.int .i64 f.broker] W fun e w' => e = .returned (.bool (inR f.broker 10000)) ∧ W = w') := rate_any _
  have R2 : Hid (∀ W, Calls Try.prog 73 #[.int .i64 f.sales] W fun e w' => e = .returned (.bool (inR f.sales 10000)) ∧ W = w') := rate_any _
  have R3 : Hid (∀ W, Calls Try.prog 93 #[.int .i64 f.least] W fun e w' => e = .returned (.bool (inR f.least 1152921504606846976)) ∧ W = w') := money_any _
  have HS : Hid (okF f = (inR f.broker 10000 && (inR f.sales 10000 && inR f.least 1152921504606846976))) := rfl
  have hbw := Lib.hid ((Below.refl w.heap.size w).alloc (Nat.le_refl _) (.cells #[.int .i64 f.broker, .int .i64 f.least, .int .i64 f.sales] 25))
  generalize okF f = O at *
  generalize inR f.broker 10000 = X at *
  generalize inR f.sales 10000 = Y at *
  generalize inR f.least 1152921504606846976 = Z at *
  unfold FeesIn.val
  cases X
  · have HO : Hid (O = false) := HS.out
    obtain rfl := HO.out
    go_enter Try.func81, Try.ntmps81
    go_wp2_with (first | (go_at_call 73; ((first | (with_reducible refine (R1.out _).mono ?_) | (with_reducible refine (R2.out _).mono ?_)); rintro e w1 ⟨rfl, rfl⟩)) | (go_at_call 93; ((with_reducible refine (R3.out _).mono ?_); rintro e w1 ⟨rfl, rfl⟩)))
    go_ret
    exact ⟨rfl, hbw.out⟩
  · cases Y
    · have HO : Hid (O = false) := HS.out
      obtain rfl := HO.out
      go_enter Try.func81, Try.ntmps81
      go_wp2_with (first | (go_at_call 73; ((first | (with_reducible refine (R1.out _).mono ?_) | (with_reducible refine (R2.out _).mono ?_)); rintro e w1 ⟨rfl, rfl⟩)) | (go_at_call 93; ((with_reducible refine (R3.out _).mono ?_); rintro e w1 ⟨rfl, rfl⟩)))
      go_ret
      exact ⟨rfl, hbw.out⟩
    · cases Z
      · have HO : Hid (O = false) := HS.out
        obtain rfl := HO.out
        go_enter Try.func81, Try.ntmps81
        go_wp2_with (first | (go_at_call 73; ((first | (with_reducible refine (R1.out _).mono ?_) | (with_reducible refine (R2.out _).mono ?_)); rintro e w1 ⟨rfl, rfl⟩)) | (go_at_call 93; ((with_reducible refine (R3.out _).mono ?_); rintro e w1 ⟨rfl, rfl⟩)))
        go_ret
        exact ⟨rfl, hbw.out⟩
      · have HO : Hid (O = true) := HS.out
        obtain rfl := HO.out
        go_enter Try.func81, Try.ntmps81
        go_wp2_with (first | (go_at_call 73; ((first | (with_reducible refine (R1.out _).mono ?_) | (with_reducible refine (R2.out _).mono ?_)); rintro e w1 ⟨rfl, rfl⟩)) | (go_at_call 93; ((with_reducible refine (R3.out _).mono ?_); rintro e w1 ⟨rfl, rfl⟩)))
        go_ret
        exact ⟨rfl, hbw.out⟩
set_option maxHeartbeats 2000000 in
theorem refCheck_any (f : FeesIn) (w : World) :
    Calls Try.prog 60 #[.agg f.val] w fun e w' => e = .returned (.int .i64 (if okF f then 0 else 1)) ∧ Below w.heap.size w w' := by
  have HS : Hid (okF f = (inR f.broker 10000 && (inR f.sales 10000 && inR f.least 1152921504606846976))) := rfl
  have hbw := Lib.hid ((Below.refl w.heap.size w).alloc (Nat.le_refl _) (.cells #[.int .i64 f.broker, .int .i64 f.least, .int .i64 f.sales] 25))
  have no : ∀ n hi : Int, ¬ (0 ≤ n ∧ n ≤ hi) → inR n hi = false := fun n hi h => by
    cases hc : inR n hi
    · rfl
    · exact absurd (inR_yes hc) h
  have NO := Lib.hid no
  clear no
  generalize okF f = O at *
  unfold FeesIn.val
  by_cases hbroker1 : f.broker < 0
  · have d := decide_eq_true hbroker1
    have HO : Hid (O = false) := by show O = false; rw [HS.out, NO.out f.broker 10000 (by omega)]; simp
    obtain rfl := HO.out
    clear hbroker1
    go_enter Try.func60, Try.ntmps60
    go_wp2
    go_ret
    exact ⟨rfl, hbw.out⟩
  have dbroker1 := decide_eq_false hbroker1
  by_cases hbroker2 : 10000 < f.broker
  · have d := decide_eq_true hbroker2
    have HO : Hid (O = false) := by show O = false; rw [HS.out, NO.out f.broker 10000 (by omega)]; simp
    obtain rfl := HO.out
    clear hbroker1 hbroker2
    go_enter Try.func60, Try.ntmps60
    go_wp2
    go_ret
    exact ⟨rfl, hbw.out⟩
  have dbroker2 := decide_eq_false hbroker2
  by_cases hsales1 : f.sales < 0
  · have d := decide_eq_true hsales1
    have HO : Hid (O = false) := by show O = false; rw [HS.out, NO.out f.sales 10000 (by omega)]; simp
    obtain rfl := HO.out
    clear hsales1
    go_enter Try.func60, Try.ntmps60
    go_wp2
    go_ret
    exact ⟨rfl, hbw.out⟩
  have dsales1 := decide_eq_false hsales1
  by_cases hsales2 : 10000 < f.sales
  · have d := decide_eq_true hsales2
    have HO : Hid (O = false) := by show O = false; rw [HS.out, NO.out f.sales 10000 (by omega)]; simp
    obtain rfl := HO.out
    clear hsales1 hsales2
    go_enter Try.func60, Try.ntmps60
    go_wp2
    go_ret
    exact ⟨rfl, hbw.out⟩
  have dsales2 := decide_eq_false hsales2
  by_cases hleast1 : f.least < 0
  · have d := decide_eq_true hleast1
    have HO : Hid (O = false) := by show O = false; rw [HS.out, NO.out f.least 1152921504606846976 (by omega)]; simp
    obtain rfl := HO.out
    clear hleast1
    go_enter Try.func60, Try.ntmps60
    go_wp2
    go_ret
    exact ⟨rfl, hbw.out⟩
  have dleast1 := decide_eq_false hleast1
  by_cases hleast2 : 1152921504606846976 < f.least
  · have d := decide_eq_true hleast2
    have HO : Hid (O = false) := by show O = false; rw [HS.out, NO.out f.least 1152921504606846976 (by omega)]; simp
    obtain rfl := HO.out
    clear hleast1 hleast2
    go_enter Try.func60, Try.ntmps60
    go_wp2
    go_ret
    exact ⟨rfl, hbw.out⟩
  have dleast2 := decide_eq_false hleast2
  have HO : Hid (O = true) := by
    show O = true
    rw [HS.out]
    unfold inR
    rw [decide_eq_true (show 0 ≤ f.broker by omega), decide_eq_true (show f.broker ≤ 10000 by omega), decide_eq_true (show 0 ≤ f.sales by omega), decide_eq_true (show f.sales ≤ 10000 by omega), decide_eq_true (show 0 ≤ f.least by omega), decide_eq_true (show f.least ≤ 1152921504606846976 by omega)]
    rfl
  obtain rfl := HO.out
  clear hbroker1 hbroker2 hsales1 hsales2 hleast1 hleast2
  go_enter Try.func60, Try.ntmps60
  go_wp2
  go_ret
  exact ⟨rfl, hbw.out⟩
end Fee
end Go.Proofs.Ytiabnjmblcogmaa
end
section
namespace Go.Proofs.Ytiabnjmblcogmaa
open Go.RowKit Go.WideShapes Go.WideElems Go.ChangeAt Go.ChangeShapes
namespace In
/-- The integers that stand from an address on. -/
def Ints (k : IntKind) (w : World) (a : Option Addr) (l : List Int) : Prop :=
  ∀ i, i < l.length → ∃ b off, a = some ⟨b, off, none⟩ ∧ b < w.heap.size ∧ w.cell? ⟨b, off + i, none⟩ = some (.int k (l.getD i 0))
def IsInts (k : IntKind) (w : World) (v : Value) (l : List Int) : Prop :=
  ∃ a cap, v = .slice a l.length cap ∧ l.length ≤ maxLen ∧ Ints k w a l ∧ (∀ n ∈ l, (Lit.int k n).wf = true) ∧ l.length ≤ cap ∧ cap ≤ maxLen
theorem Ints.below {k : IntKind} {w w' : World} {a : Option Addr} {l : List Int} (h : Ints k w a l) (hb : Below w.heap.size w w') : Ints k w' a l := fun i hi => by
  obtain ⟨b, off, ha, hlt, hc⟩ := h i hi
  exact ⟨b, off, ha, Nat.lt_of_lt_of_le hlt hb.size, (hb.cell (p := ⟨b, off + i, none⟩) hlt).trans hc⟩
theorem cell_addrI {w : World} {a : Addr} {i : Nat} {v : Value} (h : w.cell? (a.add i) = some v) (h0 : ∃ v0, w.cell? (a.add 0) = some v0) : ∃ b off, a = ⟨b, off, none⟩ ∧ b < w.heap.size ∧ w.cell? ⟨b, off + i, none⟩ = some v := by
  obtain ⟨b, off, spot⟩ := a
  obtain ⟨v0, h0⟩ := h0
  have hs : spot = none := by simpa [Addr.add] using World.cell?_spot h0
  subst hs
  refine ⟨b, off, rfl, block_lt_of_cell h0, ?_⟩
  have e : (⟨b, off, none⟩ : Addr).add i = ⟨b, off + i, none⟩ := by unfold Addr.add; split <;> simp_all
  rwa [e] at h
theorem isInts_of {H : Type} {enc : TypeId × Value → H} {P : Program} {t e : TypeId} {k : IntKind} (ht : P.underlying t = some (.slice e)) (he : P.underlying e = some (.int k)) (hc : P.cellsOf e = 1) {W : World} {r : Reach} {b0 : Nat} {v : Value} {d : DataW H} {p : List MemPlace} {base : Nat} {spare held : _}
    (hv : Value.okWide P W r b0 t v) (h : DataW.Trod enc P W base spare held t v d p) : ∃ l, IsInts k W v l := by
  obtain ⟨a0, len, cap, rfl⟩ := okWide_slice ht hv
  obtain ⟨fuel, hf⟩ := h
  rcases open_ints ht he hc hf with ⟨hcs, _⟩ | ⟨x, l, c, ss, hcs, _, hl, hm, hz, _, hcell, hws⟩
  · simp [Value.cells] at hcs
    obtain ⟨rfl, rfl, rfl⟩ := hcs
    exact ⟨[], none, 0, rfl, Nat.zero_le _, fun i hi => absurd hi (Nat.not_lt_zero i), fun s hs => (by cases hs), Nat.le_refl _, Nat.zero_le _⟩
  · simp [Value.cells] at hcs
    obtain ⟨rfl, rfl, rfl⟩ := hcs
    have hlz : len ≤ ss.length := by rw [hz]; split <;> omega
    refine ⟨ss.take len, some x, cap, by rw [List.length_take, Nat.min_eq_left hlz], by rw [List.length_take]; omega, fun i hi => ?_, fun s hs => hws s (List.mem_of_mem_take hs), by rw [List.length_take]; omega, hm⟩
    rw [List.length_take, Nat.min_eq_left hlz] at hi
    obtain ⟨b, off, rfl, hb, hc⟩ := cell_addrI (hcell i (by omega)) ⟨_, hcell 0 (by omega)⟩
    refine ⟨b, off, rfl, hb, ?_⟩
    rw [hc]
    simp [List.getD, hi]
end In
end Go.Proofs.Ytiabnjmblcogmaa
end
