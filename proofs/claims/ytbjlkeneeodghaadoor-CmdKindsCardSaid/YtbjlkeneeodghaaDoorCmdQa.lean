/- The law of a command's bytes, there and back: the plain steps. -/
import Derived.Test.YtbjlkeneeodghaaDoorCmdO
set_option linter.unusedSimpArgs false
set_option linter.unusedVariables false
namespace Go.Proofs.YtbjlkeneeodghaaDoor
open Go.RowKit Go.Great
namespace Cmd
open Pen (bs bs_append uintB intB I64 intS uintS doneS)
open In (Strs)
open Rec (below2 below_al below_dN Stk Stks stkVals stkVals_append stks_of_own)
theorem putV_eqv {a b : CmdIn} (h : Eqv a b) : putV a = putV b := by
  obtain ⟨h1, h2, h3, h4⟩ := h
  cases a
  cases b
  dsimp only at h1 h2 h3 h4
  subst h1 h2 h3 h4
  rfl
theorem cok_eqv {a b : CmdIn} (h : Eqv a b) (hb : Cok b) : Cok a := ⟨by rw [h.kind]; exact hb.kind, by rw [h.num]; exact hb.num, by rw [h.gives]; exact hb.gives, by rw [h.wants]; exact hb.wants, by rw [h.gives, h.wants]; exact hb.few⟩
theorem zero_ok : Cok zeroC := cok_few _ _ (by unfold I64; decide) (fun i _ => by unfold I64; decide)
theorem bs_self (s : ByteArray) : bs s.data.toList = s := by unfold bs; rfl
/-- What was taken is put as it came. -/
theorem back_put (s : ByteArray) : Cok (takeV s.data.toList).1 ∧ (((takeV s.data.toList).2 = 0 ∧ putV (takeV s.data.toList).1 = (s.data.toList, 0)) ∨ (takeV s.data.toList).2 = 2) := by
  rcases takeV_err s.data.toList with h | h
  · obtain ⟨h1, h2, h3, h4⟩ := put_take _ h
    refine ⟨h1, Or.inl ⟨h, ?_⟩⟩
    unfold putV
    rw [if_pos h3, h4]
  · refine ⟨?_, Or.inr h⟩
    unfold takeV at h ⊢
    split at h
    · cases h
    · rename_i hn
      rw [if_neg hn]
      exact zero_ok
theorem cmdB_len (c : CmdIn) (hc : Cok c) (h : chkV c = 0) : 0 < (cmdB c).length ∧ (cmdB c).length ≤ 10000 := by
  obtain ⟨h1, ⟨l1, l2, -⟩, -⟩ := chk_fn h
  obtain ⟨k1, k2⟩ := kind_of h1
  have hu := uintB_len c.kind
  have hn := numB_len c (fi c.kind)
  have hf := fi_len c.kind
  have hu1 : 1 ≤ (uintB c.kind).length := by
    unfold Pen.uintB
    rw [if_neg (by omega)]
    exact (Pen.wbF_len 9 _).1
  have g1 := uintB_len c.gives.length
  have g2 := stksB_len c.gives
  have w1 := uintB_len c.wants.length
  have w2 := stksB_len c.wants
  unfold cmdB
  rw [List.length_append, List.length_append]
  split
  · unfold stkB
    rw [List.length_append, List.length_append, List.length_append]
    omega
  · rw [List.length_nil]
    omega
end Cmd
end Go.Proofs.YtbjlkeneeodghaaDoor
