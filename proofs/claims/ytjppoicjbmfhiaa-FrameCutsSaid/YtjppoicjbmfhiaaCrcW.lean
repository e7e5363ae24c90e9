/- The walks of package crc and of its reference. -/
import Derived.Test.YtjppoicjbmfhiaaChecked
import Derived.Test.YtjppoicjbmfhiaaCrcP
import Derived.Lib.Hide
import Derived.Laws.CopyOwn
import Derived.Lib.ConvBytes
import Derived.Deep.WholeRow
namespace Go.Proofs.Ytjppoicjbmfhiaa
open Go.RowKit
namespace Crc
set_option maxHeartbeats 400000 in
theorem eight_any (x : BitVec 32) (w : World) :
    Calls Try.prog 27 #[.int .u32 (U x)] w fun e w' => e = .returned (.int .u32 (U (stps 8 x))) ∧ w = w' := by
  go_enter Try.func27, Try.ntmps27
  go_wp2
  go_loop [0, 3, 4] (fun n _ i => ∃ k : Nat, k ≤ 8 ∧ i = .int .i64 k ∧ n = .int .u32 (U (stps k x))) (fun _ _ i => 8 - (intOf i).toNat)
  case atStart => exact ⟨0, by omega, rfl, rfl⟩
  case round =>
    obtain ⟨k, hk, rfl, rfl⟩ := hrel
    have hs : Hid (stps (k + 1) x = _) := Lib.hid (stps_snoc k x)
    go_wp2
    · go_round
      case rel => exact ⟨k + 1, by omega, by go_num, by rw [hs.out]; rfl⟩
      case measure => simp [intOf]; omega
    · have : k = 8 := by omega
      subst this
      go_ret
      exact ⟨rfl, rfl⟩
set_option maxHeartbeats 400000 in
theorem step_any (x : BitVec 32) (w : World) :
    Calls Try.prog 25 #[.int .u32 (U x)] w fun e w' => e = .returned (.int .u32 (U (stp x))) ∧ w = w' := by
  rcases hb : (U (x &&& 1#32) == 1) with _ | _
  · have hs := Lib.hid (stp_even hb)
    go_enter Try.func25, Try.ntmps25
    go_wp2
    go_ret
    exact ⟨by rw [hs.out]; rfl, rfl⟩
  · have hs := Lib.hid (stp_odd hb)
    go_enter Try.func25, Try.ntmps25
    go_wp2
    go_ret
    exact ⟨by rw [hs.out]; rfl, rfl⟩
def nibArr (k : Nat) : Array Value := arrU 16 (upTo nib k)
set_option maxHeartbeats 400000 in
theorem nibbles_any (w : World) :
    Calls Try.prog 28 #[] w fun e w' => e = .returned (.agg (arrU 16 nib)) ∧ Below w.heap.size w w' := by
  go_enter Try.func28, Try.ntmps28
  go_wp2
  go_loopw [4] (fun i wr => ∃ k : Nat, k ≤ 16 ∧ i = .int .u32 k ∧ wr = (w.alloc (.cells (nibArr 0) 49)).alloc (.cells (nibArr k) 49)) (fun i _ => 16 - (intOf i).toNat)
  case atStart => exact ⟨0, by omega, rfl, rfl⟩
  case round =>
    obtain ⟨k, hk, rfl, rfl⟩ := hrel
    have hn := Lib.hid (U_of k (by omega))
    by_cases hlt : k < 16
    · have hg : (nibArr k)[k]? = some (.int .u32 0) := arrU_todo 16 nib k hlt
      have hset := Lib.hid (arrU_fill 16 nib k)
      go_wp2
      go_loop [3, 8] (fun n i => ∃ j : Nat, j ≤ 4 ∧ i = .int .i64 j ∧ n = .int .u32 (U (stps j (BitVec.ofNat 32 k)))) (fun _ i => 4 - (intOf i).toNat)
      case atStart => exact ⟨0, by omega, rfl, by rw [hn.out]; rfl⟩
      case round =>
        obtain ⟨j, hj, rfl, rfl⟩ := hrel
        have hs : Hid (stps (j + 1) (BitVec.ofNat 32 k) = _) := Lib.hid (stps_snoc j _)
        go_wp2
        · go_round
          case rel => exact ⟨j + 1, by omega, by go_num, by rw [hs.out]; rfl⟩
          case measure => simp [intOf]; omega
        · have : j = 4 := by omega
          subst this
          go_roundw
          case rel => exact ⟨k + 1, by omega, by go_num, by rw [show nibArr (k + 1) = _ from hset.out.symm]; rfl⟩
          case measure => simp [intOf]; omega
    · have : k = 16 := by omega
      subst this
      have hsz : ∀ k, (Try.prog.info? 49).map (·.size) = some (nibArr k).size := fun k => by rw [nibArr, arrU_size]; kernel_rfl
      go_wp2_with (first | (refine wpList_load_row rfl 49 (.tmp 1) rfl _ rfl 49 (nibArr 16) (0, 0) _ (heap_alloc2_new w _ _) Try.underlying49 rfl (hsz 16) ?_) | (refine wpList_store_row rfl 49 (.tmp 0) (.tmp 22) rfl _ _ rfl rfl 49 (nibArr 0) (heap_alloc2_old w _ _) (hsz 16) (by simp [nibArr, arrU_size]) (arrU_one _ _) ?_))
      refine bodyPost_ret (v := .agg (nibArr 16)) (results_cell_row rfl _ _ w.heap.size 49 (nibArr 16) (0, 0) _ rfl (setRow_heap _ _ _ _ _ _ (heap_alloc2_old w _ _)) Try.underlying49 rfl (hsz 16)) rfl ⟨by rw [nibArr, arrU_full], ?_⟩
      exact below_setRow ((((Below.refl _ _).alloc (Nat.le_refl _) _).alloc (by simp) _)) (Nat.le_refl _) _
theorem bytesWorld_below (w : World) (e : TypeId) (s : ByteArray) : Below w.heap.size w (Lib.bytesWorld w e s) :=
  ⟨rfl, rfl, rfl, by rw [Lib.bytesWorld_size]; omega, fun k hk => Lib.bytesWorld_at_old w e s k hk⟩
set_option maxHeartbeats 400000 in
theorem more_any (n : BitVec 32) (s : ByteArray) (hs : s.size ≤ maxLen) (w : World) :
    Calls Try.prog 26 #[.int .u32 (U n), .string s] w fun e w' => e = .returned (.int .u32 (U (more n s.data.toList))) ∧ Below w.heap.size w w' := by
  unfold maxLen at hs
  have hconv := fun w => Lib.run_convert_string_bytes (P := Try.prog) w 9 37 5 s Try.underlying9 Try.underlying37 Try.underlying5
  by_cases h16 : s.size < 16
  · go_enter Try.func26, Try.ntmps26
    go_wp2
    go_loop [5, 19] (fun v i => ∃ k : Nat, k ≤ s.size ∧ i = .int .i64 k ∧ v = .int .u32 (U (run (~~~ n) (s.data.toList.take k)))) (fun _ i => s.size - (intOf i).toNat)
    case atStart => exact ⟨0, by omega, rfl, rfl⟩
    case round =>
      obtain ⟨k, hk, rfl, rfl⟩ := hrel
      by_cases hlt : k < s.size
      · have hcell := Lib.bytesWorld_cell w 5 s k hlt
        have hd : s.data.toList.getD k 0 = s[k] := getD_byte s k hlt
        rw [hd, U_byte s[k]] at hcell
        have hrun := Lib.hid (run_take (~~~ n) s k hlt)
        clear hd
        go_wp2_with (go_at_call 27; ((with_reducible refine (eight_any _ _).mono ?_); rintro e w1 ⟨rfl, rfl⟩))
        go_round
        case rel => exact ⟨k + 1, by omega, by go_num, by rw [hrun.out]; rfl⟩
        case measure => simp [intOf]; omega
      · have hrun : Hid (s.data.toList.take k = _) := Lib.hid (List.take_of_length_le (by simp; omega))
        go_wp2
        go_ret
        refine ⟨?_, bytesWorld_below _ _ _⟩
        rw [hrun.out]; rfl
  · have hsz : (Try.prog.info? 49).map (·.size) = some (arrU 16 nib).size := by rw [arrU_size]; kernel_rfl
    have hz0 : (arrU 16 (fun _ => 0#32)).size = (arrU 16 nib).size := by rw [arrU_size, arrU_size]
    have hone := arrU_one 16 nib
    go_enter Try.func26, Try.ntmps26
    go_wp2_with (first | (go_at_call 28; ((with_reducible refine (nibbles_any _).mono ?_); rintro e w1 ⟨rfl, hb⟩)) | (refine wpList_store_row rfl 49 (.tmp 8) (.tmp 31) rfl _ (arrU 16 nib) rfl rfl 49 _ (heap_alloc_last _ _) hsz ?hh hone ?_; (case hh => simp [arrU_size]); rw [World.setRow_alloc_new]))
    have hcB : ∀ k, k < s.size → (Lib.bytesWorld (w1.alloc (.cells (arrU 16 nib) 49)) 5 s).cell? ⟨w1.heap.size + 1, k, none⟩ = some (.int .u8 (s.data.toList.getD k 0).toNat) := by
      intro k hk
      have := Lib.bytesWorld_cell (w1.alloc (.cells (arrU 16 nib) 49)) 5 s k hk
      simpa using this
    have hcT : ∀ y : BitVec 32, (Lib.bytesWorld (w1.alloc (.cells (arrU 16 nib) 49)) 5 s).cell? ⟨w1.heap.size, (U (y &&& 15#32)).toNat, none⟩ = some (.int .u32 (U (nibOf y))) := by
      intro y
      rw [Lib.bytesWorld_old _ _ _ _ (by simp), cell_of_row _ _ _ _ _ _ (heap_alloc_last _ _)]
      exact arrU_get 16 nib _ (and15_lt y)
    have hbw : Below w.heap.size w (Lib.bytesWorld (w1.alloc (.cells (arrU 16 nib) 49)) 5 s) := (hb.alloc hb.size _).trans ((bytesWorld_below _ _ _).mono (by simp; have := hb.size; omega))
    generalize Lib.bytesWorld (w1.alloc (.cells (arrU 16 nib) 49)) 5 s = W at hcB hcT hbw ⊢
    clear hsz hz0 hone
    go_loop [5, 35] (fun v i => ∃ k : Nat, k ≤ s.size ∧ i = .int .i64 k ∧ v = .int .u32 (U (run (~~~ n) (s.data.toList.take k)))) (fun _ i => s.size - (intOf i).toNat)
    case atStart => exact ⟨0, by omega, rfl, rfl⟩
    case round =>
      obtain ⟨k, hk, rfl, rfl⟩ := hrel
      have HB := Lib.hid hbw
      clear hbw
      by_cases hlt : k < s.size
      · have hcell := hcB k hlt
        rw [getD_byte s k hlt, U_byte s[k]] at hcell
        clear hcB
        have hrun := Lib.hid (run_take (~~~ n) s k hlt)
        have hnib := Lib.hid (stps_nib2 (run (~~~ n) (s.data.toList.take k) ^^^ BitVec.ofNat 32 s[k].toNat))
        have b1 := U_and15 (run (~~~ n) (s.data.toList.take k) ^^^ BitVec.ofNat 32 s[k].toNat)
        have b2 := U_and15 (nibOf (run (~~~ n) (s.data.toList.take k) ^^^ BitVec.ofNat 32 s[k].toNat) ^^^ ((run (~~~ n) (s.data.toList.take k) ^^^ BitVec.ofNat 32 s[k].toNat) >>> 4))
        go_wp2
        go_round
        case rel => exact ⟨k + 1, by omega, by go_num, by rw [hrun.out, byt, hnib.out]⟩
        case measure => simp [intOf]; omega
      · have hrun : Hid (s.data.toList.take k = _) := Lib.hid (List.take_of_length_le (by simp; omega))
        clear hcB hcT
        go_wp2
        go_ret
        refine ⟨?_, HB.out⟩
        rw [hrun.out]; rfl
end Crc

end Go.Proofs.Ytjppoicjbmfhiaa
