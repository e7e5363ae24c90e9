/- The walks of the statements on sums. -/
import Derived.Test.YtbjfpdbgjldleaaCrcA
import Derived.OpenShut
namespace Go.Proofs.Ytbjfpdbgjldleaa
open Go.RowKit
namespace Crc
theorem U_of_wf {a : Int} (h : (Lit.int .u32 a).wf = true) : ∃ x : BitVec 32, a = U x := by
  have hb := bounds_u32 h
  obtain ⟨n, rfl⟩ := Int.eq_ofNat_of_zero_le hb.1
  exact ⟨_, U_of n (by omega)⟩
set_option maxHeartbeats 400000 in
theorem crcSums_walk (s : ByteArray) (hs : s.size ≤ maxLen) (a : Int) (ha : (Lit.int .u32 a).wf = true) (w : World) :
    Calls Try.prog 3 #[.string s, .int .u32 a] w fun e w' => e = .returned (.bool true) ∧ Below w.heap.size w w' := by
  obtain ⟨x, rfl⟩ := U_of_wf ha
  clear ha
  have hs' := hs
  unfold maxLen at hs'
  by_cases hl : 1024 < s.size
  · go_enter Try.func3, Try.ntmps3
    go_wp2_with (go_at_call 8; ((with_reducible refine (awake_any _).mono ?_); rintro e w1 ⟨rfl, hb1⟩))
    go_ret
    exact ⟨rfl, hb1⟩
  · go_enter Try.func3, Try.ntmps3
    go_wp2_with (first
      | (go_at_call 9; ((with_reducible refine (sum_any s hs _).mono ?_); rintro e w1 ⟨rfl, hb1⟩))
      | (go_at_call 10; ((with_reducible refine (refSum_any s hs _).mono ?_); rintro e w2 ⟨rfl, rfl⟩))
      | (go_at_call 11; ((with_reducible refine (more_any x s hs _).mono ?_); rintro e w3 ⟨rfl, hb3⟩))
      | (go_at_call 12; ((with_reducible refine (refMore_any x s hs _).mono ?_); rintro e w4 ⟨rfl, rfl⟩))
      | (go_at_call 8; ((with_reducible refine (awake_any _).mono ?_); rintro e w5 ⟨rfl, hb5⟩)))
    go_ret
    exact ⟨rfl, below2 (below2 hb1 hb3) hb5⟩
set_option maxHeartbeats 400000 in
theorem crcZeros_walk (a : Int) (ha : (Lit.int .u32 a).wf = true) (n : Int) (hn : (Lit.int .i64 n).wf = true) (w : World) :
    Calls Try.prog 7 #[.int .u32 a, .int .i64 n] w fun e w' => e = .returned (.bool true) ∧ Below w.heap.size w w' := by
  obtain ⟨x, rfl⟩ := U_of_wf ha
  have hb := (bounds_i64 hn).2
  clear ha hn
  by_cases hl : 4096 < n
  · go_enter Try.func7, Try.ntmps7
    go_wp2_with (go_at_call 8; ((with_reducible refine (awake_any _).mono ?_); rintro e w1 ⟨rfl, hb1⟩))
    go_ret
    exact ⟨rfl, hb1⟩
  · go_enter Try.func7, Try.ntmps7
    go_wp2_with (first
      | (go_at_call 14; ((with_reducible refine (zeros_any x n hb _).mono ?_); rintro e w1 ⟨rfl, hb1⟩))
      | (go_at_call 16; ((with_reducible refine (refZeros_any x n hb _).mono ?_); rintro e w2 ⟨rfl, rfl⟩))
      | (go_at_call 8; ((with_reducible refine (awake_any _).mono ?_); rintro e w5 ⟨rfl, hb5⟩)))
    go_ret
    exact ⟨rfl, below2 hb1 hb5⟩
end Crc
end Go.Proofs.Ytbjfpdbgjldleaa
