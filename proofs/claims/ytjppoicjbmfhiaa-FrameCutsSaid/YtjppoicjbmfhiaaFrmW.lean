/- The walks of package frame and of its reference. -/
import Derived.Test.YtjppoicjbmfhiaaCrcS
import Derived.Test.YtjppoicjbmfhiaaFrmP
import Derived.Test.YtjppoicjbmfhiaaOwn
import Derived.RegionTactic
import Derived.BigRegion
import Derived.Laws.IdiomStrings
import Derived.Laws.CopyOwn
namespace Go.Proofs.Ytjppoicjbmfhiaa
open Go.RowKit
namespace Frm
open Crc (sum sum_any refSum_any)
theorem below2 {w a b : World} (h : Below w.heap.size w a) (h2 : Below a.heap.size a b) : Below w.heap.size w b := h.trans (h2.mono h.size)
theorem U_byte24 (x : BitVec 32) : U x / 16777216 % 256 = ((UInt8.ofNat (x.toNat / 16777216)).toNat : Int) := by
  unfold U; simp
theorem fits_yes (n : Nat) (h : fits n = true) (w : World) :
    Calls Try.prog 20 #[.int .i64 (n : Int)] w fun e w' => e = .returned (.bool true) ∧ w = w' := by
  obtain ⟨h1, h2⟩ := of_decide_eq_true h
  have h1 : (1 : Int) ≤ (n : Int) := by omega
  have h2 : (n : Int) ≤ 4096 := by omega
  go_enter Try.func20, Try.ntmps20
  go_wp2
  go_ret
  exact ⟨rfl, rfl⟩
theorem fits_no (n : Nat) (h : fits n = false) (w : World) :
    Calls Try.prog 20 #[.int .i64 (n : Int)] w fun e w' => e = .returned (.bool false) ∧ w = w' := by
  have h0 := of_decide_eq_false h
  clear h
  by_cases h1 : (1 : Int) ≤ (n : Int)
  · have h2 : ¬ (n : Int) ≤ 4096 := by omega
    clear h0
    go_enter Try.func20, Try.ntmps20
    go_wp2
    go_ret
    exact ⟨rfl, rfl⟩
  · have h2 : decide ((1 : Int) ≤ (n : Int)) = false := decide_eq_false h1
    clear h0
    go_enter Try.func20, Try.ntmps20
    go_wp2
    go_ret
    exact ⟨rfl, rfl⟩
theorem b24 (n : Nat) (_h : n < 4294967296) : (n : Int) / 16777216 % 256 = ((UInt8.ofNat (n / 16777216)).toNat : Int) := by simp
theorem and255 (n : Int) (h1 : 0 ≤ n) (h2 : n < 4294967296) : bits .and .u32 n 255 = n % 256 := by
  rw [u32_and n 255 h1 h2 (by omega) (by omega)]
  obtain ⟨k, rfl⟩ := Int.eq_ofNat_of_zero_le h1
  simp
  have : k &&& 255 = k % 2 ^ 8 := Nat.and_two_pow_sub_one_eq_mod k 8
  omega
set_option maxHeartbeats 400000 in
theorem four_any (n : Nat) (h : n < 4294967296) (w : World) :
    Calls Try.prog 18 #[.int .u32 (n : Int)] w fun e w' => e = .returned (.string ⟨(b4 n).toArray⟩) ∧ Below w.heap.size w w' := by
  have hb : (n : Int) < 4294967296 := by omega
  have a1 := and255 ((n : Int) / 65536) (by omega) (by omega)
  have a2 := and255 ((n : Int) / 256) (by omega) (by omega)
  have a3 := and255 (n : Int) (by omega) (by omega)
  have hcv := Own.run_back_new (P := Try.prog) (w := w) (src := 37) (dst := 9) (T := 5) 4 #[.int .u8 ((n : Int) / 16777216), .int .u8 ((n : Int) / 65536 % 256), .int .u8 ((n : Int) / 256 % 256), .int .u8 ((n : Int) % 256)] (b4 n) 4 Try.underlying37 Try.underlying5 Try.underlying9 (by simp [Own.byteVals, b4]; omega) rfl
  generalize b4 n = L at hcv ⊢
  go_enter Try.func18, Try.ntmps18
  go_wp2
  go_ret
  exact ⟨rfl, (Below.refl _ _).alloc (Nat.le_refl _) _⟩
theorem size_sum (l : List UInt8) : (U (sum l)) = ((sum l).toNat : Int) := rfl
set_option maxHeartbeats 400000 in
theorem refPut_yes (s : ByteArray) (h : fits s.size = true) (w : World) :
    Calls Try.prog 10 #[.string s] w fun e w' => e = .returned (.tuple #[.string ⟨(put s.data.toList).toArray⟩, .int .i64 0]) ∧ Below w.heap.size w w' := by
  obtain ⟨h1, h2⟩ := of_decide_eq_true h
  clear h
  have h1' : ¬ (s.size : Int) < 1 := by omega
  have h1'' : decide ((s.size : Int) < 1) = false := decide_eq_false h1'
  have h2' : ¬ (4096 : Int) < (s.size : Int) := by omega
  have hm : s.size ≤ maxLen := by unfold maxLen; omega
  have F1 := four_any s.size (by omega)
  have F2 := four_any (sum s.data.toList).toNat (sum s.data.toList).isLt
  have hs : Hid (((⟨(b4 s.size).toArray⟩ : ByteArray) ++ ⟨(b4 (sum s.data.toList).toNat).toArray⟩) ++ s = ⟨(put s.data.toList).toArray⟩) := by
    show _ = _
    apply ByteArray.ext
    rw [ByteArray.data_append, ByteArray.data_append]
    simp [put, hd]
  have F1 := Lib.hid F1
  have F2 := Lib.hid F2
  have l1 : (⟨(b4 s.size).toArray⟩ : ByteArray).size = 4 := rfl
  have l2 : (⟨(b4 (sum s.data.toList).toNat).toArray⟩ : ByteArray).size = 4 := rfl
  generalize hA : (⟨(b4 s.size).toArray⟩ : ByteArray) = A at l1 hs
  generalize hB : (⟨(b4 (sum s.data.toList).toNat).toArray⟩ : ByteArray) = B at l2 hs
  have HA := Lib.hid hA
  have HB := Lib.hid hB
  clear hA hB
  go_enter Try.func10, Try.ntmps10
  go_wp2_with (first
    | (go_at_call 18; ((with_reducible refine (F1.out _).mono ?_); rintro e w1 ⟨rfl, hb1⟩); rw [HA.out])
    | (go_at_call 19; ((with_reducible refine (refSum_any s hm _).mono ?_); rintro e w2 ⟨rfl, rfl⟩); rw [size_sum])
    | (go_at_call 18; ((with_reducible refine (F2.out _).mono ?_); rintro e w3 ⟨rfl, hb3⟩); rw [HB.out]))
  go_ret2
  exact ⟨by rw [← hs.out]; rfl, below2 hb1 hb3⟩
theorem refPut_no (s : ByteArray) (hm : s.size ≤ maxLen) (h : fits s.size = false) (w : World) :
    Calls Try.prog 10 #[.string s] w fun e w' => e = .returned (.tuple #[.string ⟨#[]⟩, .int .i64 1]) ∧ w = w' := by
  have h0 := of_decide_eq_false h
  unfold maxLen at hm
  clear h
  by_cases h1 : (s.size : Int) < 1
  · clear h0
    go_enter Try.func10, Try.ntmps10
    go_wp2
    go_ret2
    exact ⟨rfl, rfl⟩
  · have h1' : decide ((s.size : Int) < 1) = false := decide_eq_false h1
    have h2 : (4096 : Int) < (s.size : Int) := by omega
    clear h0
    go_enter Try.func10, Try.ntmps10
    go_wp2
    go_ret2
    exact ⟨rfl, rfl⟩
/-- The head's eight cells, filled as far as k of each half. -/
def hcell (n m : Nat) (k i : Nat) : Int :=
  if i < 4 then (if i < k then (((b4 n).getD i 0).toNat : Int) else 0) else (if i < 4 + k then (((b4 m).getD (i - 4) 0).toNat : Int) else 0)
def harr (n m k : Nat) : Array Value := #[.int .u8 (hcell n m k 0), .int .u8 (hcell n m k 1), .int .u8 (hcell n m k 2), .int .u8 (hcell n m k 3), .int .u8 (hcell n m k 4), .int .u8 (hcell n m k 5), .int .u8 (hcell n m k 6), .int .u8 (hcell n m k 7)]
theorem harr_one (n m k : Nat) : (harr n m k).all (·.oneCell') = true := by simp [harr, Value.oneCell']
theorem harr_4 (n m : Nat) : harr n m 4 = (Own.byteVals (b4 n ++ b4 m)).toArray := rfl
theorem head_step (n m k : Nat) (hk : k < 4) (wr w : World) (B0 B1 : Nat) (T T0 : TypeId) (u v : Int) (hne : B0 ≠ B1) (hle : w.heap.size ≤ B1) (C0 : Array Value)
    (h0 : wr.heap[B0]? = some (.cells C0 T0)) (h1 : wr.heap[B1]? = some (.cells (harr n m k) T)) (hb : Below w.heap.size w wr) (hu : u = hcell n m (k + 1) k) (hv : v = hcell n m (k + 1) (4 + k)) :
    Hid ((((wr.setCell ⟨B1, k, none⟩ (.int .u8 u)).setCell ⟨B1, 4 + k, none⟩ (.int .u8 v)).drew).heap[B0]? = some (.cells C0 T0)) ∧
    Hid ((((wr.setCell ⟨B1, k, none⟩ (.int .u8 u)).setCell ⟨B1, 4 + k, none⟩ (.int .u8 v)).drew).heap[B1]? = some (.cells (harr n m (k + 1)) T)) ∧
    Hid (Below w.heap.size w (((wr.setCell ⟨B1, k, none⟩ (.int .u8 u)).setCell ⟨B1, 4 + k, none⟩ (.int .u8 v)).drew)) := by
  refine ⟨?_, ?_, ((hb.setCell hle _).setCell hle _).drew⟩
  · have e := heap_setCell_other (wr.setCell ⟨B1, k, none⟩ (.int .u8 u)) ⟨B1, 4 + k, none⟩ B0 (.int .u8 v) hne
    have e2 := heap_setCell_other wr ⟨B1, k, none⟩ B0 (.int .u8 u) hne
    exact e.trans (e2.trans h0)
  · have e := heap_setCell_same _ B1 (4 + k) _ T (.int .u8 v) (heap_setCell_same wr B1 k _ T (.int .u8 u) h1)
    have ea : ((harr n m k).setIfInBounds k (.int .u8 u)).setIfInBounds (4 + k) (.int .u8 v) = harr n m (k + 1) := by
      subst hu
      subst hv
      match k, hk with
      | 0, _ => simp [harr, hcell]
      | 1, _ => simp [harr, hcell]
      | 2, _ => simp [harr, hcell]
      | 3, _ => simp [harr, hcell]
    rw [ea] at e
    exact e
set_option maxHeartbeats 1000000 in
theorem headOf_any (s : ByteArray) (hm : s.size ≤ 4096) (w : World) :
    Calls Try.prog 21 #[.string s] w fun e w' => e = .returned (.agg (Own.byteVals (hd s.data.toList)).toArray) ∧ Below w.heap.size w w' := by
  have hm' : s.size ≤ maxLen := by unfold maxLen; omega
  obtain ⟨m, hmm⟩ : ∃ m : Nat, Hid ((sum s.data.toList).toNat = m) := ⟨_, rfl⟩
  have hU : Hid (U (sum s.data.toList) = (m : Int)) := by show U _ = _; unfold U; rw [hmm.out]
  have hml : m < 4294967296 := by have := (sum s.data.toList).isLt; have := hmm.out; omega
  have hd' : Hid (hd s.data.toList = b4 s.size ++ b4 m) := by show hd _ = _; rw [hd, hmm.out]; simp
  clear hmm
  go_enter Try.func21, Try.ntmps21
  go_wp2_with (go_at_call 24; ((with_reducible refine (sum_any s hm' _).mono ?_); rintro e w1 ⟨rfl, hb1⟩); rw [hU.out])
  have hz : w1.heap[w.heap.size]? = some (.cells (harr s.size m 0) 42) := by
    rw [hb1.block _ (by simp; omega)]
    rw [Below.heap_alloc _ _ _ (by simp), Own.heap_new]; rfl
  have hz2 : w1.heap[w.heap.size + 1]? = some (.cells (harr s.size m 0) 42) := by
    rw [hb1.block _ (by simp)]
    exact heap_alloc2_new w _ _
  have hb : Below w.heap.size w w1 := ((((Below.refl _ _).alloc (Nat.le_refl _) _).alloc (by simp) _).trans (hb1.mono (by simp; omega)))
  clear hb1
  have HZ := Lib.hid hz
  have HZ2 := Lib.hid hz2
  have HB := Lib.hid hb
  clear hz hz2 hb
  generalize hB1 : w.heap.size + 1 = B1 at *
  have HB1 := Lib.hid hB1
  clear hB1
  go_loopw [13] (fun i wr => ∃ k : Nat, k ≤ 4 ∧ i = .int .i64 k ∧ Hid (wr.heap[w.heap.size]? = some (.cells (harr s.size m 0) 42)) ∧ Hid (wr.heap[B1]? = some (.cells (harr s.size m k) 42)) ∧ Hid (Below w.heap.size w wr)) (fun i _ => 4 - (intOf i).toNat)
  case atStart => exact ⟨0, by omega, rfl, HZ, HZ2, HB⟩
  case round =>
    obtain ⟨k, hk, rfl, HZ, HZ2, HB⟩ := hrel
    have hc := fun j => cell_of_row wr B1 j _ _ _ HZ2.out
    have hf := fun j => frozen_of_row wr B1 j _ _ HZ2.out
    by_cases hlt : k < 4
    · match k, hlt with
      | 0, _ =>
        have c0 := hc 0
        have c4 := hc 4
        have f0 := hf 0
        have f4 := hf 4
        simp [harr] at c0 c4
        clear hc hf
        go_wp2
        go_region
        go_wp2
        go_roundw
        case rel => exact ⟨1, by omega, rfl, head_step s.size m 0 (by omega) wr w w.heap.size B1 _ _ _ _ (by have := HB1.out; omega) (by have := HB1.out; omega) _ HZ.out HZ2.out HB.out (by simp [hcell, b4]; try omega) (by simp [hcell, b4]; try omega)⟩
        case measure => simp [intOf]
      | 1, _ =>
        have c0 := hc 1
        have c4 := hc 5
        have f0 := hf 1
        have f4 := hf 5
        simp [harr] at c0 c4
        clear hc hf
        go_wp2
        go_region
        go_wp2
        go_roundw
        case rel => exact ⟨2, by omega, rfl, head_step s.size m 1 (by omega) wr w w.heap.size B1 _ _ _ _ (by have := HB1.out; omega) (by have := HB1.out; omega) _ HZ.out HZ2.out HB.out (by simp [hcell, b4]; try omega) (by simp [hcell, b4]; try omega)⟩
        case measure => simp [intOf]
      | 2, _ =>
        have c0 := hc 2
        have c4 := hc 6
        have f0 := hf 2
        have f4 := hf 6
        simp [harr] at c0 c4
        clear hc hf
        go_wp2
        go_region
        go_wp2
        go_roundw
        case rel => exact ⟨3, by omega, rfl, head_step s.size m 2 (by omega) wr w w.heap.size B1 _ _ _ _ (by have := HB1.out; omega) (by have := HB1.out; omega) _ HZ.out HZ2.out HB.out (by simp [hcell, b4]; try omega) (by simp [hcell, b4]; try omega)⟩
        case measure => simp [intOf]
      | 3, _ =>
        have c0 := hc 3
        have c4 := hc 7
        have f0 := hf 3
        have f4 := hf 7
        simp [harr] at c0 c4
        clear hc hf
        go_wp2
        go_region
        go_wp2
        go_roundw
        case rel => exact ⟨4, by omega, rfl, head_step s.size m 3 (by omega) wr w w.heap.size B1 _ _ _ _ (by have := HB1.out; omega) (by have := HB1.out; omega) _ HZ.out HZ2.out HB.out (by simp [hcell, b4]; try omega) (by simp [hcell, b4]; try omega)⟩
        case measure => simp [intOf]
    · have : k = 4 := by omega
      subst this
      have hsz : ∀ k, (Try.prog.info? 42).map (·.size) = some (harr s.size m k).size := fun k => by rw [show (harr s.size m k).size = 8 from rfl]; kernel_rfl
      clear hc hf
      go_wp2_with (first | ((refine wpList_load_row rfl 42 (.tmp 3) rfl _ rfl 42 (harr s.size m 4) (0, 0) _ HZ2.out Try.underlying42 rfl (hsz 4) ?_)) | ((refine wpList_store_row rfl 42 (.tmp 2) (.tmp 33) rfl _ _ rfl rfl 42 (harr s.size m 0) HZ.out (hsz 4) rfl (harr_one _ _ _) ?_)))
      refine bodyPost_ret (v := .agg (harr s.size m 4)) (results_cell_row rfl _ _ w.heap.size 42 (harr s.size m 4) (0, 0) _ rfl (setRow_heap _ _ _ _ _ _ HZ.out) Try.underlying42 rfl (hsz 4)) rfl ⟨by rw [harr_4, hd'.out], ?_⟩
      exact below_setRow HB.out (Nat.le_refl _) _
end Frm
end Go.Proofs.Ytjppoicjbmfhiaa
