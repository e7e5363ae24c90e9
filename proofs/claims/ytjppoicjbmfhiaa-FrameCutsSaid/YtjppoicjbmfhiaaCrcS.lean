/- The walks of package crc and of its reference: sums. -/
import Derived.Test.YtjppoicjbmfhiaaCrcW
namespace Go.Proofs.Ytjppoicjbmfhiaa
open Go.RowKit
namespace Crc
set_option maxHeartbeats 400000 in
theorem refMore_any (n : BitVec 32) (s : ByteArray) (hs : s.size ≤ maxLen) (w : World) :
    Calls Try.prog 23 #[.int .u32 (U n), .string s] w fun e w' => e = .returned (.int .u32 (U (more n s.data.toList))) ∧ w = w' := by
  unfold maxLen at hs
  go_enter Try.func23, Try.ntmps23
  go_wp2
  go_loop [5, 6, 7] (fun v i _ => ∃ k : Nat, k ≤ s.size ∧ i = .int .i64 k ∧ v = .int .u32 (U (run (~~~ n) (s.data.toList.take k)))) (fun _ i _ => s.size - (intOf i).toNat)
  case atStart => exact ⟨0, by omega, rfl, rfl⟩
  case round =>
    obtain ⟨k, hk, rfl, rfl⟩ := hrel
    by_cases hlt : k < s.size
    · have hrun := Lib.hid (run_take (~~~ n) s k hlt)
      have hub := U_byte s[k]
      go_wp2
      go_loop [5, 7] (fun v i => ∃ j : Nat, j ≤ 8 ∧ i = .int .i64 j ∧ v = .int .u32 (U (stps j (run (~~~ n) (s.data.toList.take k) ^^^ BitVec.ofNat 32 s[k].toNat)))) (fun _ i => 8 - (intOf i).toNat)
      case atStart => exact ⟨0, by omega, rfl, rfl⟩
      case round =>
        obtain ⟨j, hj, rfl, rfl⟩ := hrel
        have hst : Hid (stps (j + 1) (run (~~~ n) (s.data.toList.take k) ^^^ BitVec.ofNat 32 s[k].toNat) = _) := Lib.hid (stps_snoc j _)
        go_wp2_with (go_at_call 25; ((with_reducible refine (step_any _ _).mono ?_); rintro e w1 ⟨rfl, rfl⟩))
        · go_round
          case rel => exact ⟨j + 1, by omega, by go_num, by rw [hst.out]⟩
          case measure => simp [intOf]; omega
        · have : j = 8 := by omega
          subst this
          go_round
          case rel => exact ⟨k + 1, by omega, by go_num, by rw [hrun.out]; rfl⟩
          case measure => simp [intOf]; omega
    · have hrun : Hid (s.data.toList.take k = _) := Lib.hid (List.take_of_length_le (by simp; omega))
      go_wp2
      go_ret
      exact ⟨by rw [hrun.out]; rfl, rfl⟩
set_option maxHeartbeats 400000 in
theorem sum_any (s : ByteArray) (hs : s.size ≤ maxLen) (w : World) :
    Calls Try.prog 24 #[.string s] w fun e w' => e = .returned (.int .u32 (U (sum s.data.toList))) ∧ Below w.heap.size w w' := by
  have h0 : Hid ((.int .u32 0 : Value) = .int .u32 (U 0#32)) := rfl
  go_enter Try.func24, Try.ntmps24
  go_wp2_with (go_at_call 26; rw [h0.out]; ((with_reducible refine (more_any _ _ hs _).mono ?_); rintro e w1 ⟨rfl, hb⟩))
  go_ret
  exact ⟨rfl, hb⟩
set_option maxHeartbeats 400000 in
theorem refSum_any (s : ByteArray) (hs : s.size ≤ maxLen) (w : World) :
    Calls Try.prog 19 #[.string s] w fun e w' => e = .returned (.int .u32 (U (sum s.data.toList))) ∧ w = w' := by
  have h0 : Hid ((.int .u32 0 : Value) = .int .u32 (U 0#32)) := rfl
  go_enter Try.func19, Try.ntmps19
  go_wp2_with (go_at_call 23; rw [h0.out]; ((with_reducible refine (refMore_any _ _ hs _).mono ?_); rintro e w1 ⟨rfl, rfl⟩))
  go_ret
  exact ⟨rfl, rfl⟩
end Crc
end Go.Proofs.Ytjppoicjbmfhiaa
