/- The walks of the chapter's laws, and the numbers that come in. -/
import Derived.Test.YtbjlkeneeodghaaDoorCmdO
import Derived.Test.YtbjlkeneeodghaaDoorCmdQ
import Derived.Test.YtbjlkeneeodghaaDoorCmdU
import Derived.Test.YtbjlkeneeodghaaDoorCmdPl
namespace Go.Proofs.YtbjlkeneeodghaaDoor
open Go.RowKit
namespace Cmd
open Pen (I64)
theorem wf_u8 {n : Int} (h : (Lit.int .u8 n).wf = true) : 0 ≤ n ∧ n < 256 := by
  have h2 := h; unfold Lit.wf at h2; rw [Bool.and_eq_true, decide_eq_true_eq, decide_eq_true_eq] at h2; simp [IntKind.min, IntKind.max, IntKind.signed, IntKind.bits] at h2
  omega
theorem wf_i64 {n : Int} (h : (Lit.int .i64 n).wf = true) : I64 n := by
  have h2 := h; unfold Lit.wf at h2; rw [Bool.and_eq_true, decide_eq_true_eq, decide_eq_true_eq] at h2; simp [IntKind.min, IntKind.max, IntKind.signed, IntKind.bits] at h2
  unfold I64
  omega
end Cmd
end Go.Proofs.YtbjlkeneeodghaaDoor
