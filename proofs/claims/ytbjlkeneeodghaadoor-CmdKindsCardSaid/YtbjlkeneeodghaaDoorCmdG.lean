/- The reference's words and fields of a kind. -/
import Derived.Test.YtbjlkeneeodghaaDoorCmdR
set_option linter.unusedSimpArgs false
set_option linter.unusedVariables false
namespace Go.Proofs.YtbjlkeneeodghaaDoor
open Go.RowKit Go.Great
namespace Cmd
open Pen (bs)
open In (Strs)
open Rec (below2 below_al below_dN)
set_option maxRecDepth 100000 in
theorem refName_any (k : Int) (w : World) : Calls Tryd.prog 24 #[.int .i64 k] w fun e w' => e = .returned (.string (nameOf k)) ∧ Below w.heap.size w w' := by
  have CN : Hid (∀ W, Calls Tryd.prog 51 #[] W (Gives wds W)) := fun W => refWords_any W
  have HL : Hid (wds.length = 25) := rfl
  by_cases h : 1 ≤ k ∧ k ≤ 25
  · have HN : Hid (nameOf k = wd (k - 1).toNat) := if_pos h
    rw [HN.out]
    have HG := Lib.hid (wds_get (k - 1).toNat (by omega))
    obtain ⟨m, hm⟩ : ∃ m : Nat, (k - 1).toNat = m := ⟨_, rfl⟩
    have hk : k = (m : Int) + 1 := by omega
    rw [hm] at HG ⊢
    have hm25 : m < 25 := by omega
    have e1 : wrap64 ((m : Int) + 1 - 1) = (m : Int) := by unfold wrap64; omega
    have e2 : (m : Int) + 1 - 1 = (m : Int) := by omega
    have n1 : ¬ (m : Int) + 1 < 1 := by omega
    have n2 : ¬ 25 < (m : Int) + 1 := by omega
    have d1 : decide ((m : Int) + 1 < 1) = false := decide_eq_false n1
    have d2 : decide (25 < (m : Int) + 1) = false := decide_eq_false n2
    subst hk
    clear hm HN
    clear h
    generalize wd m = X at *
    go_enter Tryd.func24, Tryd.ntmps24
    go_wp2_with (go_at_call 51; (with_reducible refine (CN.out _).mono ?_); rintro e w1 ⟨a1, c1, rfl, HS, HB, -⟩; rw [HL.out]; have hc0 := HS.out m (by rw [HL.out]; exact hm25); (obtain ⟨b, off, rfl, hbl, hc⟩ := hc0); rw [HG.out] at hc)
    all_goals go_ret
    all_goals exact ⟨rfl, HB.out⟩
  · have HN : Hid (nameOf k = ⟨#[]⟩) := if_neg h
    rw [HN.out]
    by_cases h1 : k < 1
    · have d1 : decide (k < 1) = true := decide_eq_true h1
      go_enter Tryd.func24, Tryd.ntmps24
      go_wp2
      all_goals go_ret
      all_goals exact ⟨rfl, Below.refl _ _⟩
    · have d1 : decide (k < 1) = false := decide_eq_false h1
      have h2 : 25 < k := by omega
      have d2 : decide (25 < k) = true := decide_eq_true h2
      go_enter Tryd.func24, Tryd.ntmps24
      go_wp2
      all_goals go_ret
      all_goals exact ⟨rfl, Below.refl _ _⟩
set_option maxRecDepth 100000 in
theorem refFields_1 (w : World) : Calls Tryd.prog 22 #[.int .i64 1] w (Gives (fn 1) w) := by
  go_enter Tryd.func22, Tryd.ntmps22
  go_wp2
  go_ret
  exact ⟨some ⟨w.heap.size, 0, none⟩, 2, rfl, strs_new rfl (fn 1) _, below_al (Below.refl _ _) _, fun x hx => by cases hx; exact Nat.le_refl _⟩
set_option maxRecDepth 100000 in
theorem refFields_2 (w : World) : Calls Tryd.prog 22 #[.int .i64 2] w (Gives (fn 2) w) := by
  go_enter Tryd.func22, Tryd.ntmps22
  go_wp2
  go_ret
  exact ⟨some ⟨w.heap.size, 0, none⟩, 5, rfl, strs_new rfl (fn 2) _, below_al (Below.refl _ _) _, fun x hx => by cases hx; exact Nat.le_refl _⟩
set_option maxRecDepth 100000 in
theorem refFields_3 (w : World) : Calls Tryd.prog 22 #[.int .i64 3] w (Gives (fn 3) w) := by
  go_enter Tryd.func22, Tryd.ntmps22
  go_wp2
  go_ret
  exact ⟨some ⟨w.heap.size, 0, none⟩, 7, rfl, strs_new rfl (fn 3) _, below_al (Below.refl _ _) _, fun x hx => by cases hx; exact Nat.le_refl _⟩
set_option maxRecDepth 100000 in
theorem refFields_4 (w : World) : Calls Tryd.prog 22 #[.int .i64 4] w (Gives (fn 4) w) := by
  go_enter Tryd.func22, Tryd.ntmps22
  go_wp2
  go_ret
  exact ⟨some ⟨w.heap.size, 0, none⟩, 1, rfl, strs_new rfl (fn 4) _, below_al (Below.refl _ _) _, fun x hx => by cases hx; exact Nat.le_refl _⟩
set_option maxRecDepth 100000 in
theorem refFields_5 (w : World) : Calls Tryd.prog 22 #[.int .i64 5] w (Gives (fn 5) w) := by
  go_enter Tryd.func22, Tryd.ntmps22
  go_wp2
  go_ret
  exact ⟨some ⟨w.heap.size, 0, none⟩, 4, rfl, strs_new rfl (fn 5) _, below_al (Below.refl _ _) _, fun x hx => by cases hx; exact Nat.le_refl _⟩
set_option maxRecDepth 100000 in
theorem refFields_6 (w : World) : Calls Tryd.prog 22 #[.int .i64 6] w (Gives (fn 6) w) := by
  go_enter Tryd.func22, Tryd.ntmps22
  go_wp2
  go_ret
  exact ⟨some ⟨w.heap.size, 0, none⟩, 3, rfl, strs_new rfl (fn 6) _, below_al (Below.refl _ _) _, fun x hx => by cases hx; exact Nat.le_refl _⟩
set_option maxRecDepth 100000 in
theorem refFields_7 (w : World) : Calls Tryd.prog 22 #[.int .i64 7] w (Gives (fn 7) w) := by
  go_enter Tryd.func22, Tryd.ntmps22
  go_wp2
  go_ret
  exact ⟨some ⟨w.heap.size, 0, none⟩, 4, rfl, strs_new rfl (fn 7) _, below_al (Below.refl _ _) _, fun x hx => by cases hx; exact Nat.le_refl _⟩
set_option maxRecDepth 100000 in
theorem refFields_8 (w : World) : Calls Tryd.prog 22 #[.int .i64 8] w (Gives (fn 8) w) := by
  go_enter Tryd.func22, Tryd.ntmps22
  go_wp2
  go_ret
  exact ⟨some ⟨w.heap.size, 0, none⟩, 8, rfl, strs_new rfl (fn 8) _, below_al (Below.refl _ _) _, fun x hx => by cases hx; exact Nat.le_refl _⟩
set_option maxRecDepth 100000 in
theorem refFields_9 (w : World) : Calls Tryd.prog 22 #[.int .i64 9] w (Gives (fn 9) w) := by
  go_enter Tryd.func22, Tryd.ntmps22
  go_wp2
  go_ret
  exact ⟨some ⟨w.heap.size, 0, none⟩, 8, rfl, strs_new rfl (fn 9) _, below_al (Below.refl _ _) _, fun x hx => by cases hx; exact Nat.le_refl _⟩
set_option maxRecDepth 100000 in
theorem refFields_10 (w : World) : Calls Tryd.prog 22 #[.int .i64 10] w (Gives (fn 10) w) := by
  go_enter Tryd.func22, Tryd.ntmps22
  go_wp2
  go_ret
  exact ⟨some ⟨w.heap.size, 0, none⟩, 2, rfl, strs_new rfl (fn 10) _, below_al (Below.refl _ _) _, fun x hx => by cases hx; exact Nat.le_refl _⟩
set_option maxRecDepth 100000 in
theorem refFields_11 (w : World) : Calls Tryd.prog 22 #[.int .i64 11] w (Gives (fn 11) w) := by
  go_enter Tryd.func22, Tryd.ntmps22
  go_wp2
  go_ret
  exact ⟨some ⟨w.heap.size, 0, none⟩, 2, rfl, strs_new rfl (fn 11) _, below_al (Below.refl _ _) _, fun x hx => by cases hx; exact Nat.le_refl _⟩
set_option maxRecDepth 100000 in
theorem refFields_12 (w : World) : Calls Tryd.prog 22 #[.int .i64 12] w (Gives (fn 12) w) := by
  go_enter Tryd.func22, Tryd.ntmps22
  go_wp2
  go_ret
  exact ⟨some ⟨w.heap.size, 0, none⟩, 2, rfl, strs_new rfl (fn 12) _, below_al (Below.refl _ _) _, fun x hx => by cases hx; exact Nat.le_refl _⟩
set_option maxRecDepth 100000 in
theorem refFields_13 (w : World) : Calls Tryd.prog 22 #[.int .i64 13] w (Gives (fn 13) w) := by
  go_enter Tryd.func22, Tryd.ntmps22
  go_wp2
  go_ret
  exact ⟨some ⟨w.heap.size, 0, none⟩, 2, rfl, strs_new rfl (fn 13) _, below_al (Below.refl _ _) _, fun x hx => by cases hx; exact Nat.le_refl _⟩
set_option maxRecDepth 100000 in
theorem refFields_14 (w : World) : Calls Tryd.prog 22 #[.int .i64 14] w (Gives (fn 14) w) := by
  go_enter Tryd.func22, Tryd.ntmps22
  go_wp2
  go_ret
  exact ⟨some ⟨w.heap.size, 0, none⟩, 11, rfl, strs_new rfl (fn 14) _, below_al (Below.refl _ _) _, fun x hx => by cases hx; exact Nat.le_refl _⟩
set_option maxRecDepth 100000 in
theorem refFields_15 (w : World) : Calls Tryd.prog 22 #[.int .i64 15] w (Gives (fn 15) w) := by
  go_enter Tryd.func22, Tryd.ntmps22
  go_wp2
  go_ret
  exact ⟨some ⟨w.heap.size, 0, none⟩, 4, rfl, strs_new rfl (fn 15) _, below_al (Below.refl _ _) _, fun x hx => by cases hx; exact Nat.le_refl _⟩
set_option maxRecDepth 100000 in
theorem refFields_16 (w : World) : Calls Tryd.prog 22 #[.int .i64 16] w (Gives (fn 16) w) := by
  go_enter Tryd.func22, Tryd.ntmps22
  go_wp2
  go_ret
  exact ⟨some ⟨w.heap.size, 0, none⟩, 2, rfl, strs_new rfl (fn 16) _, below_al (Below.refl _ _) _, fun x hx => by cases hx; exact Nat.le_refl _⟩
set_option maxRecDepth 100000 in
theorem refFields_17 (w : World) : Calls Tryd.prog 22 #[.int .i64 17] w (Gives (fn 17) w) := by
  go_enter Tryd.func22, Tryd.ntmps22
  go_wp2
  go_ret
  exact ⟨some ⟨w.heap.size, 0, none⟩, 2, rfl, strs_new rfl (fn 17) _, below_al (Below.refl _ _) _, fun x hx => by cases hx; exact Nat.le_refl _⟩
set_option maxRecDepth 100000 in
theorem refFields_18 (w : World) : Calls Tryd.prog 22 #[.int .i64 18] w (Gives (fn 18) w) := by
  go_enter Tryd.func22, Tryd.ntmps22
  go_wp2
  go_ret
  exact ⟨some ⟨w.heap.size, 0, none⟩, 2, rfl, strs_new rfl (fn 18) _, below_al (Below.refl _ _) _, fun x hx => by cases hx; exact Nat.le_refl _⟩
set_option maxRecDepth 100000 in
theorem refFields_19 (w : World) : Calls Tryd.prog 22 #[.int .i64 19] w (Gives (fn 19) w) := by
  go_enter Tryd.func22, Tryd.ntmps22
  go_wp2
  go_ret
  exact ⟨some ⟨w.heap.size, 0, none⟩, 2, rfl, strs_new rfl (fn 19) _, below_al (Below.refl _ _) _, fun x hx => by cases hx; exact Nat.le_refl _⟩
set_option maxRecDepth 100000 in
theorem refFields_20 (w : World) : Calls Tryd.prog 22 #[.int .i64 20] w (Gives (fn 20) w) := by
  go_enter Tryd.func22, Tryd.ntmps22
  go_wp2
  go_ret
  exact ⟨some ⟨w.heap.size, 0, none⟩, 1, rfl, strs_new rfl (fn 20) _, below_al (Below.refl _ _) _, fun x hx => by cases hx; exact Nat.le_refl _⟩
set_option maxRecDepth 100000 in
theorem refFields_21 (w : World) : Calls Tryd.prog 22 #[.int .i64 21] w (Gives (fn 21) w) := by
  go_enter Tryd.func22, Tryd.ntmps22
  go_wp2
  go_ret
  exact ⟨some ⟨w.heap.size, 0, none⟩, 2, rfl, strs_new rfl (fn 21) _, below_al (Below.refl _ _) _, fun x hx => by cases hx; exact Nat.le_refl _⟩
set_option maxRecDepth 100000 in
theorem refFields_22 (w : World) : Calls Tryd.prog 22 #[.int .i64 22] w (Gives (fn 22) w) := by
  go_enter Tryd.func22, Tryd.ntmps22
  go_wp2
  go_ret
  exact ⟨some ⟨w.heap.size, 0, none⟩, 5, rfl, strs_new rfl (fn 22) _, below_al (Below.refl _ _) _, fun x hx => by cases hx; exact Nat.le_refl _⟩
set_option maxRecDepth 100000 in
theorem refFields_23 (w : World) : Calls Tryd.prog 22 #[.int .i64 23] w (Gives (fn 23) w) := by
  go_enter Tryd.func22, Tryd.ntmps22
  go_wp2
  go_ret
  exact ⟨some ⟨w.heap.size, 0, none⟩, 2, rfl, strs_new rfl (fn 23) _, below_al (Below.refl _ _) _, fun x hx => by cases hx; exact Nat.le_refl _⟩
set_option maxRecDepth 100000 in
theorem refFields_24 (w : World) : Calls Tryd.prog 22 #[.int .i64 24] w (Gives (fn 24) w) := by
  go_enter Tryd.func22, Tryd.ntmps22
  go_wp2
  go_ret
  exact ⟨some ⟨w.heap.size, 0, none⟩, 2, rfl, strs_new rfl (fn 24) _, below_al (Below.refl _ _) _, fun x hx => by cases hx; exact Nat.le_refl _⟩
set_option maxRecDepth 100000 in
theorem refFields_25 (w : World) : Calls Tryd.prog 22 #[.int .i64 25] w (Gives (fn 25) w) := by
  go_enter Tryd.func22, Tryd.ntmps22
  go_wp2
  go_ret
  exact ⟨some ⟨w.heap.size, 0, none⟩, 1, rfl, strs_new rfl (fn 25) _, below_al (Below.refl _ _) _, fun x hx => by cases hx; exact Nat.le_refl _⟩
set_option maxRecDepth 100000 in
theorem refFields_no (k : Int) (h : ¬ (1 ≤ k ∧ k ≤ 25)) (w : World) : Calls Tryd.prog 22 #[.int .i64 k] w (Gives (fn k) w) := by
  have HN : Hid (fn k = []) := by show fn k = []; unfold fn; rw [fi_out h]; rfl
  rw [HN.out]
  have HS : Hid (In.Strs w none []) := fun i hi => absurd hi (Nat.not_lt_zero i)
  have n1 : ¬ k = 1 := by omega
  have d1 : (k == 1) = false := beq_eq_false_iff_ne.2 n1
  have n2 : ¬ k = 2 := by omega
  have d2 : (k == 2) = false := beq_eq_false_iff_ne.2 n2
  have n3 : ¬ k = 3 := by omega
  have d3 : (k == 3) = false := beq_eq_false_iff_ne.2 n3
  have n4 : ¬ k = 4 := by omega
  have d4 : (k == 4) = false := beq_eq_false_iff_ne.2 n4
  have n5 : ¬ k = 5 := by omega
  have d5 : (k == 5) = false := beq_eq_false_iff_ne.2 n5
  have n6 : ¬ k = 6 := by omega
  have d6 : (k == 6) = false := beq_eq_false_iff_ne.2 n6
  have n7 : ¬ k = 7 := by omega
  have d7 : (k == 7) = false := beq_eq_false_iff_ne.2 n7
  have n8 : ¬ k = 8 := by omega
  have d8 : (k == 8) = false := beq_eq_false_iff_ne.2 n8
  have n9 : ¬ k = 9 := by omega
  have d9 : (k == 9) = false := beq_eq_false_iff_ne.2 n9
  have n10 : ¬ k = 10 := by omega
  have d10 : (k == 10) = false := beq_eq_false_iff_ne.2 n10
  have n11 : ¬ k = 11 := by omega
  have d11 : (k == 11) = false := beq_eq_false_iff_ne.2 n11
  have n12 : ¬ k = 12 := by omega
  have d12 : (k == 12) = false := beq_eq_false_iff_ne.2 n12
  have n13 : ¬ k = 13 := by omega
  have d13 : (k == 13) = false := beq_eq_false_iff_ne.2 n13
  have n14 : ¬ k = 14 := by omega
  have d14 : (k == 14) = false := beq_eq_false_iff_ne.2 n14
  have n15 : ¬ k = 15 := by omega
  have d15 : (k == 15) = false := beq_eq_false_iff_ne.2 n15
  have n16 : ¬ k = 16 := by omega
  have d16 : (k == 16) = false := beq_eq_false_iff_ne.2 n16
  have n17 : ¬ k = 17 := by omega
  have d17 : (k == 17) = false := beq_eq_false_iff_ne.2 n17
  have n18 : ¬ k = 18 := by omega
  have d18 : (k == 18) = false := beq_eq_false_iff_ne.2 n18
  have n19 : ¬ k = 19 := by omega
  have d19 : (k == 19) = false := beq_eq_false_iff_ne.2 n19
  have n20 : ¬ k = 20 := by omega
  have d20 : (k == 20) = false := beq_eq_false_iff_ne.2 n20
  have n21 : ¬ k = 21 := by omega
  have d21 : (k == 21) = false := beq_eq_false_iff_ne.2 n21
  have n22 : ¬ k = 22 := by omega
  have d22 : (k == 22) = false := beq_eq_false_iff_ne.2 n22
  have n23 : ¬ k = 23 := by omega
  have d23 : (k == 23) = false := beq_eq_false_iff_ne.2 n23
  have n24 : ¬ k = 24 := by omega
  have d24 : (k == 24) = false := beq_eq_false_iff_ne.2 n24
  have n25 : ¬ k = 25 := by omega
  have d25 : (k == 25) = false := beq_eq_false_iff_ne.2 n25
  clear h HN
  go_enter Tryd.func22, Tryd.ntmps22
  go_wp2
  all_goals go_ret
  all_goals exact ⟨none, 0, rfl, HS, Below.refl _ _, fun x hx => by cases hx⟩
theorem refFields_any (k : Int) (w : World) : Calls Tryd.prog 22 #[.int .i64 k] w (Gives (fn k) w) := by
  by_cases h : 1 ≤ k ∧ k ≤ 25
  · obtain ⟨m, hm⟩ : ∃ m : Nat, (k - 1).toNat = m := ⟨_, rfl⟩
    have hk : k = (m : Int) + 1 := by omega
    have hm25 : m < 25 := by omega
    subst hk
    match m, hm25 with
    | 0, _ => exact refFields_1 w
    | 1, _ => exact refFields_2 w
    | 2, _ => exact refFields_3 w
    | 3, _ => exact refFields_4 w
    | 4, _ => exact refFields_5 w
    | 5, _ => exact refFields_6 w
    | 6, _ => exact refFields_7 w
    | 7, _ => exact refFields_8 w
    | 8, _ => exact refFields_9 w
    | 9, _ => exact refFields_10 w
    | 10, _ => exact refFields_11 w
    | 11, _ => exact refFields_12 w
    | 12, _ => exact refFields_13 w
    | 13, _ => exact refFields_14 w
    | 14, _ => exact refFields_15 w
    | 15, _ => exact refFields_16 w
    | 16, _ => exact refFields_17 w
    | 17, _ => exact refFields_18 w
    | 18, _ => exact refFields_19 w
    | 19, _ => exact refFields_20 w
    | 20, _ => exact refFields_21 w
    | 21, _ => exact refFields_22 w
    | 22, _ => exact refFields_23 w
    | 23, _ => exact refFields_24 w
    | 24, _ => exact refFields_25 w
    | n + 25, h => omega
  · exact refFields_no k h w
end Cmd
end Go.Proofs.YtbjlkeneeodghaaDoor
