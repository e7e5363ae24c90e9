/- Whether a command is one: where it cannot be one; the program's answer at any command. -/
import Derived.Test.YtbjlkeneeodghaaDoorCmdA
set_option linter.unusedSimpArgs false
set_option linter.unusedVariables false
namespace Go.Proofs.YtbjlkeneeodghaaDoor
open Go.RowKit Go.Great
namespace Cmd
open Pen (bs)
open In (Strs)
open Rec (below2 below_al below_dN Stk Stks stkVals)
theorem fn_len (k : Int) : (fn k).length ≤ 11 := by
  unfold fn
  rw [List.length_map]
  exact fi_len k
set_option maxRecDepth 100000 in
set_option maxHeartbeats 8000000 in
theorem check_bad (c : CmdIn) (w : World) (ht : Tab w) (h100 : c.gives.length ≤ 100 ∧ c.wants.length ≤ 100) (hbad : fn c.kind = [] ∨ ¬ Lok c) : Calls Tryd.prog 14 #[.agg c.val] w fun e w' => e = .returned (.int .i64 1) ∧ Below w.heap.size w w' := by
  have HT := Lib.hid ht
  have HST := Lib.hid (stand_new (w := w) rfl c)
  have CF : Hid (∀ W, Tab W → Calls Tryd.prog 21 #[.int .i64 c.kind] W (Gives (fn c.kind) W)) := fun W h => fields_any c.kind W h
  obtain ⟨m, hm⟩ : ∃ m, (fn c.kind).length = m := ⟨_, rfl⟩
  have hm1 : m ≤ 100 := by have := fn_len c.kind; omega
  obtain ⟨n1, hn1⟩ : ∃ n1, Hid (c.gives.length = n1) := ⟨_, rfl⟩
  obtain ⟨n2, hn2⟩ : ∃ n2, Hid (c.wants.length = n2) := ⟨_, rfl⟩
  have hbad2 : m = 0 ∨ ¬ (n1 ≤ 8 ∧ n2 ≤ 8 ∧ (c.kind ≠ 14 → n1 + n2 = 0)) := by
    rw [← hn1.out, ← hn2.out]
    refine hbad.imp (fun h => by rw [← hm, h]; rfl) fun h => h
  rw [hn1.out, hn2.out] at h100
  obtain ⟨h1, h2⟩ := h100
  clear hbad ht
  have v0 : c.val[0]? = some (.int .i64 c.kind) := rfl
  have dm : ((m : Int) == 0) = decide (m = 0) := by rw [Bool.eq_iff_iff, beq_iff_eq, decide_eq_true_eq]; omega
  have k14 : (c.kind == 14) = decide (c.kind = 14) := rfl
  have k14n : (c.kind != 14) = !decide (c.kind = 14) := rfl
  have dg : decide ((n1 : Int) ≤ 8) = decide (n1 ≤ 8) := by rw [Bool.eq_iff_iff, decide_eq_true_eq, decide_eq_true_eq]; omega
  have dw : decide ((n2 : Int) ≤ 8) = decide (n2 ≤ 8) := by rw [Bool.eq_iff_iff, decide_eq_true_eq, decide_eq_true_eq]; omega
  have ds : ((n1 : Int) + (n2 : Int) == 0) = decide (n1 + n2 = 0) := by rw [Bool.eq_iff_iff, beq_iff_eq, decide_eq_true_eq]; omega
  by_cases em : m = 0 <;> by_cases ek : c.kind = 14 <;> by_cases eg : n1 ≤ 8 <;> by_cases ew : n2 ≤ 8 <;> by_cases es : n1 + n2 = 0 <;>
    first
    | (exfalso; clear CF HT HST v0 dm k14 k14n dg dw ds; omega)
    | skip
  all_goals
    first | rw [decide_eq_true em] at dm | rw [decide_eq_false em] at dm
    first | rw [decide_eq_true ek] at k14 | rw [decide_eq_false ek] at k14
    first | rw [decide_eq_true ek] at k14n | rw [decide_eq_false ek] at k14n
    simp only [Bool.not_true, Bool.not_false] at k14n
    first | rw [decide_eq_true eg] at dg | rw [decide_eq_false eg] at dg
    first | rw [decide_eq_true ew] at dw | rw [decide_eq_false ew] at dw
    first | rw [decide_eq_true es] at ds | rw [decide_eq_false es] at ds
    clear em ek eg ew es hbad2
    go_enter Tryd.func14, Tryd.ntmps14
    go_wp2_with (go_at_call 21; (with_reducible refine (CF.out _ (HT.out.below (below_al (Below.refl _ _) _))).mono ?_); rintro e w1 ⟨a1, k1, rfl, HF1, HB1, -⟩; rw [hm]; have HS1 := Lib.hid (HST.out.below HB1.out); have HB2 := Lib.hid (below2 (below_al (Below.refl w.heap.size w) _) HB1.out); obtain ⟨b0, b20, b21⟩ := HS1.out.three; rw [hn1.out] at b20; rw [hn2.out] at b21)
  all_goals (go_ret; exact ⟨rfl, HB2.out⟩)
theorem check_any (c : CmdIn) (w : World) (ht : Tab w) (h100 : c.gives.length ≤ 100 ∧ c.wants.length ≤ 100) : Calls Tryd.prog 14 #[.agg c.val] w fun e w' => e = .returned (.int .i64 (chkV c)) ∧ Below w.heap.size w w' := by
  unfold chkV
  by_cases h : fn c.kind = [] ∨ ¬ Lok c
  · rw [if_pos h]
    exact check_bad c w ht h100 h
  · rw [if_neg h]
    exact check_loop c w ht (fun e => h (Or.inl e)) (Decidable.byContradiction fun e => h (Or.inr e))
end Cmd
end Go.Proofs.YtbjlkeneeodghaaDoor
