/- The walks of package crc and of its reference: more. -/
import Derived.Test.YtbjfpdbgjldleaaCrcW
namespace Go.Proofs.Ytbjfpdbgjldleaa
open Go.RowKit
namespace Crc
set_option maxHeartbeats 400000 in
theorem refMore_any (n : BitVec 32) (s : ByteArray) (hs : s.size ≤ maxLen) (w : World) :
    Calls Try.prog 12 #[.int .u32 (U n), .string s] w fun e w' => e = .returned (.int .u32 (U (more n s.data.toList))) ∧ w = w' := by
  unfold maxLen at hs
  go_enter Try.func12, Try.ntmps12
  go_wp2
  go_loop [5, 6, 7] (fun v i _ => ∃ k : Nat, k ≤ s.size ∧ i = .int .i64 k ∧ v = .int .u32 (U (run (~~~ n) (s.data.toList.take k)))) (fun _ i _ => s.size - (intOf i).toNat)
  case atStart => exact ⟨0, by omega, rfl, rfl⟩
  case round =>
    obtain ⟨k, hk, rfl, rfl⟩ := hrel
    by_cases hlt : k < s.size
    · have hrun := Lib.hid (run_take (~~~ n) s k hlt)
      have hub := U_byte s[k]
      go_wp2
      go_loop [5, 7] (fun v i => ∃ j : Nat, j ≤ 8 ∧ i = .int .i64 j ∧ v = .int .u32 (U (stps j (run (~~~ n) (s.data.toList.take k) ^^^ BitVec.ofNat 32 s[k].toNat)))) (fun _ i => 8 - (intOf i).toNat)
      case atStart => exact ⟨0, by omega, rfl, rfl⟩
      case round =>
        obtain ⟨j, hj, rfl, rfl⟩ := hrel
        have hst : Hid (stps (j + 1) (run (~~~ n) (s.data.toList.take k) ^^^ BitVec.ofNat 32 s[k].toNat) = _) := Lib.hid (stps_snoc j _)
        go_wp2_with (go_at_call 19; ((with_reducible refine (step_any _ _).mono ?_); rintro e w1 ⟨rfl, rfl⟩))
        · go_round
          case rel => exact ⟨j + 1, by omega, by go_num, by rw [hst.out]⟩
          case measure => simp [intOf]; omega
        · have : j = 8 := by omega
          subst this
          go_round
          case rel => exact ⟨k + 1, by omega, by go_num, by rw [hrun.out]; rfl⟩
          case measure => simp [intOf]; omega
    · have hrun : Hid (s.data.toList.take k = _) := Lib.hid (List.take_of_length_le (by simp; omega))
      go_wp2
      go_ret
      exact ⟨by rw [hrun.out]; rfl, rfl⟩
set_option maxHeartbeats 400000 in
theorem sum_any (s : ByteArray) (hs : s.size ≤ maxLen) (w : World) :
    Calls Try.prog 9 #[.string s] w fun e w' => e = .returned (.int .u32 (U (sum s.data.toList))) ∧ Below w.heap.size w w' := by
  have h0 : Hid ((.int .u32 0 : Value) = .int .u32 (U 0#32)) := rfl
  go_enter Try.func9, Try.ntmps9
  go_wp2_with (go_at_call 11; rw [h0.out]; ((with_reducible refine (more_any _ _ hs _).mono ?_); rintro e w1 ⟨rfl, hb⟩))
  go_ret
  exact ⟨rfl, hb⟩
set_option maxHeartbeats 400000 in
theorem refSum_any (s : ByteArray) (hs : s.size ≤ maxLen) (w : World) :
    Calls Try.prog 10 #[.string s] w fun e w' => e = .returned (.int .u32 (U (sum s.data.toList))) ∧ w = w' := by
  have h0 : Hid ((.int .u32 0 : Value) = .int .u32 (U 0#32)) := rfl
  go_enter Try.func10, Try.ntmps10
  go_wp2_with (go_at_call 12; rw [h0.out]; ((with_reducible refine (refMore_any _ _ hs _).mono ?_); rintro e w1 ⟨rfl, rfl⟩))
  go_ret
  exact ⟨rfl, rfl⟩
/-- What a matrix makes of the lowest k bits of a number. -/
def timesTo (f : Nat → BitVec 32) (n : BitVec 32) : Nat → BitVec 32
  | 0 => 0#32
  | k + 1 => if n.getLsbD k then timesTo f n k ^^^ f k else timesTo f n k
set_option maxHeartbeats 400000 in
theorem times_any (f : Nat → BitVec 32) (n : BitVec 32) (b : Nat) (w : World) (hb : w.heap[b]? = some (.cells (arrU 32 f) 43)) :
    Calls Try.prog 20 #[.pointer (some ⟨b, 0, none⟩), .int .u32 (U n)] w fun e w' => e = .returned (.int .u32 (U (timesTo f n 32))) ∧ w = w' := by
  have hc : ∀ k, k < 32 → w.cell? ⟨b, k, none⟩ = some (.int .u32 (U (f k))) := fun k hk => by rw [cell_of_row _ _ _ _ _ _ hb, arrU_get 32 f k hk]
  clear hb
  go_enter Try.func20, Try.ntmps20
  go_wp2
  go_loop [5, 7] (fun v i => ∃ k : Nat, k ≤ 32 ∧ i = .int .i64 k ∧ v = .int .u32 (U (timesTo f n k))) (fun _ i => 32 - (intOf i).toNat)
  case atStart => exact ⟨0, by omega, rfl, rfl⟩
  case round =>
    obtain ⟨k, hk, rfl, rfl⟩ := hrel
    by_cases hlt : k < 32
    · have hck := hc k hlt
      clear hc
      rcases hbit : n.getLsbD k with _ | _
      · have ht := (bitTest n k).trans hbit
        have HB := Lib.hid hbit
        clear hbit
        go_wp2
        go_round
        case rel => exact ⟨k + 1, by omega, by go_num, by rw [timesTo, HB.out]; rfl⟩
        case measure => simp [intOf]; omega
      · have ht := (bitTest n k).trans hbit
        have HB := Lib.hid hbit
        clear hbit
        go_wp2
        go_round
        case rel => exact ⟨k + 1, by omega, by go_num, by rw [timesTo, HB.out]; rfl⟩
        case measure => simp [intOf]; omega
    · have : k = 32 := by omega
      subst this
      go_wp2
      go_ret
      exact ⟨rfl, rfl⟩
/-- What a matrix done twice makes of each bit. -/
def twice (f : Nat → BitVec 32) (k : Nat) : BitVec 32 := timesTo f (f k) 32
set_option maxHeartbeats 400000 in
theorem twice_any (f : Nat → BitVec 32) (b : Nat) (w : World) (hb : w.heap[b]? = some (.cells (arrU 32 f) 43)) :
    Calls Try.prog 21 #[.pointer (some ⟨b, 0, none⟩)] w fun e w' => e = .returned (.pointer (some ⟨w.heap.size, 0, none⟩)) ∧ w' = w.alloc (.cells (arrU 32 (twice f)) 43) := by
  have hlt : b < w.heap.size := (Array.getElem?_eq_some_iff.1 hb).1
  have hc : ∀ k, k < 32 → ∀ o, (w.alloc o).cell? ⟨b, k, none⟩ = some (.int .u32 (U (f k))) := fun k hk o => by rw [cell_of_row _ _ _ _ _ _ ((Below.heap_alloc w o b hlt).trans hb), arrU_get 32 f k hk]
  have HO : ∀ o, Hid ((w.alloc o).heap[b]? = some (.cells (arrU 32 f) 43)) := fun o => (Below.heap_alloc w o b hlt).trans hb
  clear hb
  go_enter Try.func21, Try.ntmps21
  go_wp2
  go_loopw [5] (fun i wr => ∃ k : Nat, k ≤ 32 ∧ i = .int .i64 k ∧ wr = w.alloc (.cells (arrU 32 (upTo (twice f) k)) 43)) (fun i _ => 32 - (intOf i).toNat)
  case atStart => exact ⟨0, by omega, rfl, rfl⟩
  case round =>
    obtain ⟨k, hk, rfl, rfl⟩ := hrel
    by_cases hk2 : k < 32
    · have hck := hc k hk2
      clear hc
      have hg := arrU_todo 32 (twice f) k hk2
      have hset := Lib.hid (arrU_fill 32 (twice f) k)
      go_wp2_with (go_at_call 20; ((with_reducible refine (times_any f (f k) b _ (HO _).out).mono ?_); rintro e w1 ⟨rfl, rfl⟩))
      go_roundw
      case rel => exact ⟨k + 1, by omega, by go_num, by rw [← hset.out]; rfl⟩
      case measure => simp [intOf]; omega
    · have : k = 32 := by omega
      subst this
      go_wp2
      go_ret
      exact ⟨rfl, by rw [arrU_full]⟩
end Crc
end Go.Proofs.Ytbjfpdbgjldleaa
