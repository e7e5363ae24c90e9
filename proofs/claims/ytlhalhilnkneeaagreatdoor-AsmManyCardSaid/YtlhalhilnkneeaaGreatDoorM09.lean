/- Texts put together: FrmW, FrmW2. -/
import Derived.Test.YtlhalhilnkneeaaGreatDoorM08
import Derived.Test.YtlhalhilnkneeaaGreatDoorM00
import Derived.RegionTactic
import Derived.BigRegion
import Derived.Laws.IdiomStrings
import Derived.Laws.CopyOwn
import Derived.Deep.RegionHeld3
import Derived.Deep.MidRow
import Derived.Deep.WholeRow
import Derived.Stop.BytesEq
import Derived.Lib.BufferWrite
set_option linter.all false
section
set_option maxRecDepth 100000
namespace Go.Proofs.YtlhalhilnkneeaaGreatDoor
open Go.RowKit
namespace Frm
open Crc (sum sum_any refSum_any)
theorem below2 {w a b : World} (h : Below w.heap.size w a) (h2 : Below a.heap.size a b) : Below w.heap.size w b := h.trans (h2.mono h.size)
theorem U_byte24 (x : BitVec 32) : U x / 16777216 % 256 = ((UInt8.ofNat (x.toNat / 16777216)).toNat : Int) := by
  unfold U; simp
theorem fits_yes (n : Nat) (h : fits n = true) (w : World) :
    Calls Tryz.prog 75 #[.int .i64 (n : Int)] w fun e w' => e = .returned (.bool true) ∧ w = w' := by
  obtain ⟨h1, h2⟩ := of_decide_eq_true h
  have h1 : (1 : Int) ≤ (n : Int) := by omega
  have h2 : (n : Int) ≤ 4096 := by omega
  go_enter Tryz.func75, Tryz.ntmps75
  go_wp2
  go_ret
  exact ⟨rfl, rfl⟩
theorem fits_no (n : Nat) (h : fits n = false) (w : World) :
    Calls Tryz.prog 75 #[.int .i64 (n : Int)] w fun e w' => e = .returned (.bool false) ∧ w = w' := by
  have h0 := of_decide_eq_false h
  clear h
  by_cases h1 : (1 : Int) ≤ (n : Int)
  · have h2 : ¬ (n : Int) ≤ 4096 := by omega
    clear h0
    go_enter Tryz.func75, Tryz.ntmps75
    go_wp2
    go_ret
    exact ⟨rfl, rfl⟩
  · have h2 : decide ((1 : Int) ≤ (n : Int)) = false := decide_eq_false h1
    clear h0
    go_enter Tryz.func75, Tryz.ntmps75
    go_wp2
    go_ret
    exact ⟨rfl, rfl⟩
theorem b24 (n : Nat) (_h : n < 4294967296) : (n : Int) / 16777216 % 256 = ((UInt8.ofNat (n / 16777216)).toNat : Int) := by simp
theorem and255 (n : Int) (h1 : 0 ≤ n) (h2 : n < 4294967296) : bits .and .u32 n 255 = n % 256 := by
  rw [u32_and n 255 h1 h2 (by omega) (by omega)]
  obtain ⟨k, rfl⟩ := Int.eq_ofNat_of_zero_le h1
  simp
  have : k &&& 255 = k % 2 ^ 8 := Nat.and_two_pow_sub_one_eq_mod k 8
  omega
set_option maxHeartbeats 400000 in
theorem four_any (n : Nat) (h : n < 4294967296) (w : World) :
    Calls Tryz.prog 123 #[.int .u32 (n : Int)] w fun e w' => e = .returned (.string ⟨(b4 n).toArray⟩) ∧ Below w.heap.size w w' := by
  have hb : (n : Int) < 4294967296 := by omega
  have a1 := and255 ((n : Int) / 65536) (by omega) (by omega)
  have a2 := and255 ((n : Int) / 256) (by omega) (by omega)
  have a3 := and255 (n : Int) (by omega) (by omega)
  have hcv := Own.run_back_new (P := Tryz.prog) (w := w) (src := 92) (dst := 9) (T := 5) 4 #[.int .u8 ((n : Int) / 16777216), .int .u8 ((n : Int) / 65536 % 256), .int .u8 ((n : Int) / 256 % 256), .int .u8 ((n : Int) % 256)] (b4 n) 4 Tryz.underlying92 Tryz.underlying5 Tryz.underlying9 (by simp [Own.byteVals, b4]; omega) rfl
  generalize b4 n = L at hcv ⊢
  go_enter Tryz.func123, Tryz.ntmps123
  go_wp2
  go_ret
  exact ⟨rfl, (Below.refl _ _).alloc (Nat.le_refl _) _⟩
theorem size_sum (l : List UInt8) : (U (sum l)) = ((sum l).toNat : Int) := rfl
set_option maxHeartbeats 400000 in
theorem refPut_yes (s : ByteArray) (h : fits s.size = true) (w : World) :
    Calls Tryz.prog 90 #[.string s] w fun e w' => e = .returned (.tuple #[.string ⟨(put s.data.toList).toArray⟩, .int .i64 0]) ∧ Below w.heap.size w w' := by
  obtain ⟨h1, h2⟩ := of_decide_eq_true h
  clear h
  have h1' : ¬ (s.size : Int) < 1 := by omega
  have h1'' : decide ((s.size : Int) < 1) = false := decide_eq_false h1'
  have h2' : ¬ (4096 : Int) < (s.size : Int) := by omega
  have hm : s.size ≤ maxLen := by unfold maxLen; omega
  have F1 := four_any s.size (by omega)
  have F2 := four_any (sum s.data.toList).toNat (sum s.data.toList).isLt
  have hs : Hid (((⟨(b4 s.size).toArray⟩ : ByteArray) ++ ⟨(b4 (sum s.data.toList).toNat).toArray⟩) ++ s = ⟨(put s.data.toList).toArray⟩) := by
    show _ = _
    apply ByteArray.ext
    rw [ByteArray.data_append, ByteArray.data_append]
    simp [put, hd]
  have F1 := Lib.hid F1
  have F2 := Lib.hid F2
  have l1 : (⟨(b4 s.size).toArray⟩ : ByteArray).size = 4 := rfl
  have l2 : (⟨(b4 (sum s.data.toList).toNat).toArray⟩ : ByteArray).size = 4 := rfl
  generalize hA : (⟨(b4 s.size).toArray⟩ : ByteArray) = A at l1 hs
  generalize hB : (⟨(b4 (sum s.data.toList).toNat).toArray⟩ : ByteArray) = B at l2 hs
  have HA := Lib.hid hA
  have HB := Lib.hid hB
  clear hA hB
  go_enter Tryz.func90, Tryz.ntmps90
  go_wp2_with (first
    | (go_at_call 123; ((with_reducible refine (F1.out _).mono ?_); rintro e w1 ⟨rfl, hb1⟩); rw [HA.out])
    | (go_at_call 124; ((with_reducible refine (refSum_any s hm _).mono ?_); rintro e w2 ⟨rfl, rfl⟩); rw [size_sum])
    | (go_at_call 123; ((with_reducible refine (F2.out _).mono ?_); rintro e w3 ⟨rfl, hb3⟩); rw [HB.out]))
  go_ret2
  exact ⟨by rw [← hs.out]; rfl, below2 hb1 hb3⟩
theorem refPut_no (s : ByteArray) (hm : s.size ≤ maxLen) (h : fits s.size = false) (w : World) :
    Calls Tryz.prog 90 #[.string s] w fun e w' => e = .returned (.tuple #[.string ⟨#[]⟩, .int .i64 1]) ∧ w = w' := by
  have h0 := of_decide_eq_false h
  unfold maxLen at hm
  clear h
  by_cases h1 : (s.size : Int) < 1
  · clear h0
    go_enter Tryz.func90, Tryz.ntmps90
    go_wp2
    go_ret2
    exact ⟨rfl, rfl⟩
  · have h1' : decide ((s.size : Int) < 1) = false := decide_eq_false h1
    have h2 : (4096 : Int) < (s.size : Int) := by omega
    clear h0
    go_enter Tryz.func90, Tryz.ntmps90
    go_wp2
    go_ret2
    exact ⟨rfl, rfl⟩
/-- The head's eight cells, filled as far as k of each half. -/
def hcell (n m : Nat) (k i : Nat) : Int :=
  if i < 4 then (if i < k then (((b4 n).getD i 0).toNat : Int) else 0) else (if i < 4 + k then (((b4 m).getD (i - 4) 0).toNat : Int) else 0)
def harr (n m k : Nat) : Array Value := #[.int .u8 (hcell n m k 0), .int .u8 (hcell n m k 1), .int .u8 (hcell n m k 2), .int .u8 (hcell n m k 3), .int .u8 (hcell n m k 4), .int .u8 (hcell n m k 5), .int .u8 (hcell n m k 6), .int .u8 (hcell n m k 7)]
theorem harr_one (n m k : Nat) : (harr n m k).all (·.oneCell') = true := by simp [harr, Value.oneCell']
theorem harr_4 (n m : Nat) : harr n m 4 = (Own.byteVals (b4 n ++ b4 m)).toArray := rfl
theorem head_step (n m k : Nat) (hk : k < 4) (wr w : World) (B0 B1 : Nat) (T T0 : TypeId) (u v : Int) (hne : B0 ≠ B1) (hle : w.heap.size ≤ B1) (C0 : Array Value)
    (h0 : wr.heap[B0]? = some (.cells C0 T0)) (h1 : wr.heap[B1]? = some (.cells (harr n m k) T)) (hb : Below w.heap.size w wr) (hu : u = hcell n m (k + 1) k) (hv : v = hcell n m (k + 1) (4 + k)) :
    Hid ((((wr.setCell ⟨B1, k, none⟩ (.int .u8 u)).setCell ⟨B1, 4 + k, none⟩ (.int .u8 v)).drew).heap[B0]? = some (.cells C0 T0)) ∧
    Hid ((((wr.setCell ⟨B1, k, none⟩ (.int .u8 u)).setCell ⟨B1, 4 + k, none⟩ (.int .u8 v)).drew).heap[B1]? = some (.cells (harr n m (k + 1)) T)) ∧
    Hid (Below w.heap.size w (((wr.setCell ⟨B1, k, none⟩ (.int .u8 u)).setCell ⟨B1, 4 + k, none⟩ (.int .u8 v)).drew)) := by
  refine ⟨?_, ?_, ((hb.setCell hle _).setCell hle _).drew⟩
  · have e := heap_setCell_other (wr.setCell ⟨B1, k, none⟩ (.int .u8 u)) ⟨B1, 4 + k, none⟩ B0 (.int .u8 v) hne
    have e2 := heap_setCell_other wr ⟨B1, k, none⟩ B0 (.int .u8 u) hne
    exact e.trans (e2.trans h0)
  · have e := heap_setCell_same _ B1 (4 + k) _ T (.int .u8 v) (heap_setCell_same wr B1 k _ T (.int .u8 u) h1)
    have ea : ((harr n m k).setIfInBounds k (.int .u8 u)).setIfInBounds (4 + k) (.int .u8 v) = harr n m (k + 1) := by
      subst hu
      subst hv
      match k, hk with
      | 0, _ => simp [harr, hcell]
      | 1, _ => simp [harr, hcell]
      | 2, _ => simp [harr, hcell]
      | 3, _ => simp [harr, hcell]
    rw [ea] at e
    exact e
set_option maxHeartbeats 1000000 in
theorem headOf_any (s : ByteArray) (hm : s.size ≤ 4096) (w : World) :
    Calls Tryz.prog 76 #[.string s] w fun e w' => e = .returned (.agg (Own.byteVals (hd s.data.toList)).toArray) ∧ Below w.heap.size w w' := by
  have hm' : s.size ≤ maxLen := by unfold maxLen; omega
  obtain ⟨m, hmm⟩ : ∃ m : Nat, Hid ((sum s.data.toList).toNat = m) := ⟨_, rfl⟩
  have hU : Hid (U (sum s.data.toList) = (m : Int)) := by show U _ = _; unfold U; rw [hmm.out]
  have hml : m < 4294967296 := by have := (sum s.data.toList).isLt; have := hmm.out; omega
  have hd' : Hid (hd s.data.toList = b4 s.size ++ b4 m) := by show hd _ = _; rw [hd, hmm.out]; simp
  clear hmm
  go_enter Tryz.func76, Tryz.ntmps76
  go_wp2_with (go_at_call 115; ((with_reducible refine (sum_any s hm' _).mono ?_); rintro e w1 ⟨rfl, hb1⟩); rw [hU.out])
  have hz : w1.heap[w.heap.size]? = some (.cells (harr s.size m 0) 108) := by
    rw [hb1.block _ (by simp; omega)]
    rw [Below.heap_alloc _ _ _ (by simp), Own.heap_new]; rfl
  have hz2 : w1.heap[w.heap.size + 1]? = some (.cells (harr s.size m 0) 108) := by
    rw [hb1.block _ (by simp)]
    exact heap_alloc2_new w _ _
  have hb : Below w.heap.size w w1 := ((((Below.refl _ _).alloc (Nat.le_refl _) _).alloc (by simp) _).trans (hb1.mono (by simp; omega)))
  clear hb1
  have HZ := Lib.hid hz
  have HZ2 := Lib.hid hz2
  have HB := Lib.hid hb
  clear hz hz2 hb
  generalize hB1 : w.heap.size + 1 = B1 at *
  have HB1 := Lib.hid hB1
  clear hB1
  go_loopw [13] (fun i wr => ∃ k : Nat, k ≤ 4 ∧ i = .int .i64 k ∧ Hid (wr.heap[w.heap.size]? = some (.cells (harr s.size m 0) 108)) ∧ Hid (wr.heap[B1]? = some (.cells (harr s.size m k) 108)) ∧ Hid (Below w.heap.size w wr)) (fun i _ => 4 - (intOf i).toNat)
  case atStart => exact ⟨0, by omega, rfl, HZ, HZ2, HB⟩
  case round =>
    obtain ⟨k, hk, rfl, HZ, HZ2, HB⟩ := hrel
    have hc := fun j => cell_of_row wr B1 j _ _ _ HZ2.out
    have hf := fun j => frozen_of_row wr B1 j _ _ HZ2.out
    by_cases hlt : k < 4
    · match k, hlt with
      | 0, _ =>
        have c0 := hc 0
        have c4 := hc 4
        have f0 := hf 0
        have f4 := hf 4
        simp [harr] at c0 c4
        clear hc hf
        go_wp2
        go_region
        go_wp2
        go_roundw
        case rel => exact ⟨1, by omega, rfl, head_step s.size m 0 (by omega) wr w w.heap.size B1 _ _ _ _ (by have := HB1.out; omega) (by have := HB1.out; omega) _ HZ.out HZ2.out HB.out (by simp [hcell, b4]; try omega) (by simp [hcell, b4]; try omega)⟩
        case measure => simp [intOf]
      | 1, _ =>
        have c0 := hc 1
        have c4 := hc 5
        have f0 := hf 1
        have f4 := hf 5
        simp [harr] at c0 c4
        clear hc hf
        go_wp2
        go_region
        go_wp2
        go_roundw
        case rel => exact ⟨2, by omega, rfl, head_step s.size m 1 (by omega) wr w w.heap.size B1 _ _ _ _ (by have := HB1.out; omega) (by have := HB1.out; omega) _ HZ.out HZ2.out HB.out (by simp [hcell, b4]; try omega) (by simp [hcell, b4]; try omega)⟩
        case measure => simp [intOf]
      | 2, _ =>
        have c0 := hc 2
        have c4 := hc 6
        have f0 := hf 2
        have f4 := hf 6
        simp [harr] at c0 c4
        clear hc hf
        go_wp2
        go_region
        go_wp2
        go_roundw
        case rel => exact ⟨3, by omega, rfl, head_step s.size m 2 (by omega) wr w w.heap.size B1 _ _ _ _ (by have := HB1.out; omega) (by have := HB1.out; omega) _ HZ.out HZ2.out HB.out (by simp [hcell, b4]; try omega) (by simp [hcell, b4]; try omega)⟩
        case measure => simp [intOf]
      | 3, _ =>
        have c0 := hc 3
        have c4 := hc 7
        have f0 := hf 3
        have f4 := hf 7
        simp [harr] at c0 c4
        clear hc hf
        go_wp2
        go_region
        go_wp2
        go_roundw
        case rel => exact ⟨4, by omega, rfl, head_step s.size m 3 (by omega) wr w w.heap.size B1 _ _ _ _ (by have := HB1.out; omega) (by have := HB1.out; omega) _ HZ.out HZ2.out HB.out (by simp [hcell, b4]; try omega) (by simp [hcell, b4]; try omega)⟩
        case measure => simp [intOf]
    · have : k = 4 := by omega
      subst this
      have hsz : ∀ k, (Tryz.prog.info? 108).map (·.size) = some (harr s.size m k).size := fun k => by rw [show (harr s.size m k).size = 8 from rfl]; kernel_rfl
      clear hc hf
      go_wp2_with (first | ((refine wpList_load_row rfl 108 (.tmp 3) rfl _ rfl 108 (harr s.size m 4) (0, 0) _ HZ2.out Tryz.underlying108 rfl (hsz 4) ?_)) | ((refine wpList_store_row rfl 108 (.tmp 2) (.tmp 33) rfl _ _ rfl rfl 108 (harr s.size m 0) HZ.out (hsz 4) rfl (harr_one _ _ _) ?_)))
      refine bodyPost_ret (v := .agg (harr s.size m 4)) (results_cell_row rfl _ _ w.heap.size 108 (harr s.size m 4) (0, 0) _ rfl (setRow_heap _ _ _ _ _ _ HZ.out) Tryz.underlying108 rfl (hsz 4)) rfl ⟨by rw [harr_4, hd'.out], ?_⟩
      exact below_setRow HB.out (Nat.le_refl _) _
end Frm
end Go.Proofs.YtlhalhilnkneeaaGreatDoor
end
section
set_option maxRecDepth 100000
namespace Go.Proofs.YtlhalhilnkneeaaGreatDoor
open Go.RowKit
namespace Frm
open Crc (sum sum_any refSum_any)
theorem or_join (n : Nat) (b : UInt8) (h : n < 1099511627776) : bits .or .i64 ((n : Int) * 256) (b.toNat : Int) = ((n * 256 + b.toNat : Nat) : Int) := by
  have hb := b.toNat_lt
  show IntKind.i64.wrap ((BitVec.ofInt 64 ((n : Int) * 256) ||| BitVec.ofInt 64 (b.toNat : Int)).toNat : Int) = _
  have e1 : (BitVec.ofInt 64 ((n : Int) * 256)).toNat = n * 256 := by rw [BitVec.toNat_ofInt]; omega
  have e2 : (BitVec.ofInt 64 (b.toNat : Int)).toNat = b.toNat := by rw [BitVec.toNat_ofInt]; omega
  rw [BitVec.toNat_or, e1, e2, nat_join 8 _ _ (by omega) (by omega), IntKind.wrap_i64]
  omega
/-- The first eight bytes as cells. -/
def zero8 : Array Value := (Own.byteVals (List.replicate 8 0)).toArray
theorem run_copy8 {P : Program} (w : World) (dT sT ty elem : TypeId) (g : Nat) (s : ByteArray) (cur : Array Value) (t : TypeId)
    (hu : P.underlying dT = some (.slice elem)) (hs : (P.info? elem).map (·.size) = some 1) (hg : w.heap[g]? = some (.cells cur t (0, 0))) (hle : 8 ≤ s.size) (hfit : cur.size = 8) :
    (Builtin.copy_ #[dT, sT] ty #[.slice (some ⟨g, 0, none⟩) 8 8, .string s]).run P w =
      .ok (goInt 8) (w.setRow g (Own.byteVals (s.data.toList.take 8)).toArray) := by
  have hlen : (Lib.byteCells (s.data.toList.take 8)).length = 8 := by rw [Lib.byteCells_length, List.length_take]; simp; omega
  have hst := run_storeCells_at P g 0 t (Lib.byteCells (s.data.toList.take 8)) 0 cur w hg (by rw [hlen]; omega) (Lib.byteCells_one _)
  have hmin : Nat.min s.size 8 = 8 := Nat.min_eq_right hle
  have htk : List.take 8 (List.map (fun b : UInt8 => Value.int IntKind.u8 (b.toNat : Int)) s.data.toList) = Lib.byteCells (s.data.toList.take 8) := by
    rw [← List.map_take]
    rfl
  rw [hlen] at hst
  simp only [Nat.add_zero] at hst
  cases hq : P.info? elem with
  | none => simp [hq] at hs
  | some i =>
    simp [Builtin.copy_, run_underlying hu, Builtin.lenOf, Builtin.firstCells, sizeOf, typeInfo, hq, hmin]
    rw [htk, hst]
    have e : cur.toList.drop 8 = [] := List.drop_eq_nil_of_le (by simpa using Nat.le_of_eq hfit)
    simp [Result.andThen, e]
    rfl
set_option maxHeartbeats 1000000 in
theorem first_short_walk (s : ByteArray) (h : s.size < 8) (w : World) :
    Calls Tryz.prog 77 #[.string s] w fun e w' => e = .returned (.tuple #[.string ⟨#[]⟩, .bool false]) ∧ w = w' := by
  go_enter Tryz.func77, Tryz.ntmps77
  go_wp2
  go_ret2
  exact ⟨rfl, rfl⟩
theorem eight (l : List UInt8) (h : 8 ≤ l.length) : ∃ b0 b1 b2 b3 b4 b5 b6 b7 t, l = b0 :: b1 :: b2 :: b3 :: b4 :: b5 :: b6 :: b7 :: t := by
  match l, h with
  | b0 :: b1 :: b2 :: b3 :: b4 :: b5 :: b6 :: b7 :: t, _ => exact ⟨b0, b1, b2, b3, b4, b5, b6, b7, t, rfl⟩
/-- Eight cells. -/
def C8 (w : World) (g : Nat) (v0 v1 v2 v3 v4 v5 v6 v7 : Value) : Prop :=
  w.cell? ⟨g, 0, none⟩ = some v0 ∧ w.cell? ⟨g, 1, none⟩ = some v1 ∧ w.cell? ⟨g, 2, none⟩ = some v2 ∧ w.cell? ⟨g, 3, none⟩ = some v3 ∧ w.cell? ⟨g, 4, none⟩ = some v4 ∧ w.cell? ⟨g, 5, none⟩ = some v5 ∧ w.cell? ⟨g, 6, none⟩ = some v6 ∧ w.cell? ⟨g, 7, none⟩ = some v7
theorem C8.below {w w' : World} {g : Nat} {v0 v1 v2 v3 v4 v5 v6 v7 : Value} (h : C8 w g v0 v1 v2 v3 v4 v5 v6 v7) (hb : Below w.heap.size w w') : C8 w' g v0 v1 v2 v3 v4 v5 v6 v7 := by
  have hg : g < w.heap.size := block_lt_of_cell h.1
  have e : ∀ j, w'.cell? ⟨g, j, none⟩ = w.cell? ⟨g, j, none⟩ := fun j => hb.cell (p := ⟨g, j, none⟩) hg
  unfold C8
  rw [e, e, e, e, e, e, e, e]
  exact h
/-- What is told of the record with which bytes begin. -/
def firstOf (l : List UInt8) (e : Ending) : Prop :=
  match first l with
  | some r => e = .returned (.tuple #[.string ⟨r.toArray⟩, .bool true])
  | none => ∃ t, e = .returned (.tuple #[.string t, .bool false])
set_option maxHeartbeats 1000000 in
theorem first_long (s : ByteArray) (h8 : 8 ≤ s.size) (hm : s.size ≤ maxLen) (w : World) :
    Calls Tryz.prog 77 #[.string s] w fun e w' => firstOf s.data.toList e ∧ Below w.heap.size w w' := by
  have hm' := hm
  unfold maxLen at hm'
  obtain ⟨b0, b1, b2, b3, b4, b5, b6, b7, t, hs⟩ := eight s.data.toList (by simpa using h8)
  have hcp := run_copy8 (P := Tryz.prog) (w.alloc (.cells zero8 108)) 92 9 3 5 w.heap.size s zero8 108 Tryz.underlying92 (by kernel_rfl) (Own.heap_new _ _) h8 rfl
  rw [World.setRow_alloc_new, hs] at hcp
  have hcp2 : Sem.run Tryz.prog (Builtin.copy_ #[92, 9] 3 #[.slice (some ⟨w.heap.size, 0, none⟩) 8 8, .string s]) (w.alloc (.cells #[.int .u8 0, .int .u8 0, .int .u8 0, .int .u8 0, .int .u8 0, .int .u8 0, .int .u8 0, .int .u8 0] 108)) = .ok (.int .i64 8) (w.alloc (.cells #[.int .u8 b0.toNat, .int .u8 b1.toNat, .int .u8 b2.toNat, .int .u8 b3.toNat, .int .u8 b4.toNat, .int .u8 b5.toNat, .int .u8 b6.toNat, .int .u8 b7.toNat] 108)) := hcp
  have hlt : ¬ s.size < 8 := by omega
  clear hcp
  go_enter Tryz.func77, Tryz.ntmps77
  go_wp2
  have h80 : b0.toNat < 256 := b0.toNat_lt
  have h81 : b1.toNat < 256 := b1.toNat_lt
  have h82 : b2.toNat < 256 := b2.toNat_lt
  have h83 : b3.toNat < 256 := b3.toNat_lt
  go_loop [5, 17] (fun n i => ∃ k : Nat, k ≤ 4 ∧ i = .int .i64 k ∧ n = .int .i64 ((num ([b0, b1, b2, b3].take k) : Nat) : Int)) (fun _ i => 4 - (intOf i).toNat)
  case atStart => exact ⟨0, by omega, rfl, rfl⟩
  case round =>
    obtain ⟨k, hk, rfl, rfl⟩ := hrel
    by_cases hlt4 : k < 4
    · match k, hlt4 with
      | 0, _ =>
        have hj := or_join (num ([b0, b1, b2, b3].take 0)) b0 (by simp [num]; try omega)
        have hn : Hid ((num ([b0, b1, b2, b3].take 1) : Nat) = num ([b0, b1, b2, b3].take 0) * 256 + b0.toNat) := rfl
        have hlo : ((num ([b0, b1, b2, b3].take 0) : Nat) : Int) ≤ 0 := by simp [num]; try omega
        generalize num ([b0, b1, b2, b3].take 0) = n at hj hn hlo ⊢
        go_wp2
        go_round
        case rel => exact ⟨1, by omega, rfl, congrArg (Value.int .i64) (by rw [hn.out]; omega)⟩
        case measure => simp [intOf]
      | 1, _ =>
        have hj := or_join (num ([b0, b1, b2, b3].take 1)) b1 (by simp [num]; try omega)
        have hn : Hid ((num ([b0, b1, b2, b3].take 2) : Nat) = num ([b0, b1, b2, b3].take 1) * 256 + b1.toNat) := rfl
        have hlo : ((num ([b0, b1, b2, b3].take 1) : Nat) : Int) ≤ 255 := by simp [num]; try omega
        generalize num ([b0, b1, b2, b3].take 1) = n at hj hn hlo ⊢
        go_wp2
        go_round
        case rel => exact ⟨2, by omega, rfl, congrArg (Value.int .i64) (by rw [hn.out]; omega)⟩
        case measure => simp [intOf]
      | 2, _ =>
        have hj := or_join (num ([b0, b1, b2, b3].take 2)) b2 (by simp [num]; try omega)
        have hn : Hid ((num ([b0, b1, b2, b3].take 3) : Nat) = num ([b0, b1, b2, b3].take 2) * 256 + b2.toNat) := rfl
        have hlo : ((num ([b0, b1, b2, b3].take 2) : Nat) : Int) ≤ 65535 := by simp [num]; try omega
        generalize num ([b0, b1, b2, b3].take 2) = n at hj hn hlo ⊢
        go_wp2
        go_round
        case rel => exact ⟨3, by omega, rfl, congrArg (Value.int .i64) (by rw [hn.out]; omega)⟩
        case measure => simp [intOf]
      | 3, _ =>
        have hj := or_join (num ([b0, b1, b2, b3].take 3)) b3 (by simp [num]; try omega)
        have hn : Hid ((num ([b0, b1, b2, b3].take 4) : Nat) = num ([b0, b1, b2, b3].take 3) * 256 + b3.toNat) := rfl
        have hlo : ((num ([b0, b1, b2, b3].take 3) : Nat) : Int) ≤ 16777215 := by simp [num]; try omega
        generalize num ([b0, b1, b2, b3].take 3) = n at hj hn hlo ⊢
        go_wp2
        go_round
        case rel => exact ⟨4, by omega, rfl, congrArg (Value.int .i64) (by rw [hn.out]; omega)⟩
        case measure => simp [intOf]
    · have : k = 4 := by omega
      subst this
      have h4 : Hid (num ([b0, b1, b2, b3].take 4) = num (s.data.toList.take 4)) := by show num _ = _; rw [hs]; rfl
      have hlo : ((num ([b0, b1, b2, b3].take 4) : Nat) : Int) ≤ 4294967295 := by simp [num]; omega
      generalize num ([b0, b1, b2, b3].take 4) = n at h4 hlo ⊢
      have hlen : s.data.toList.length = s.size := by simp
      have h8n : ¬ s.data.toList.length < 8 := by omega
      cases hf : fits n
      · have hfo : ∀ e, e = .returned (.tuple #[.string ⟨#[]⟩, .bool false]) → firstOf s.data.toList e := by
          intro e he
          unfold firstOf first
          rw [if_neg h8n, ← h4.out, hf]
          exact ⟨_, he⟩
        have HF := Lib.hid hfo
        have FN := Lib.hid (fits_no n hf)
        clear hfo hf hs hlen h8n hcp2
        go_wp2_with (go_at_call 75; ((with_reducible refine (FN.out _).mono ?_); rintro e w1 ⟨rfl, rfl⟩))
        go_ret2
        exact ⟨HF.out _ rfl, (Below.refl _ _).alloc (Nat.le_refl _) _⟩
      · have FY := Lib.hid (fits_yes n hf)
        by_cases hgt : (s.size : Int) - 8 < (n : Int)
        · have hfo : ∀ e, e = .returned (.tuple #[.string ⟨#[]⟩, .bool false]) → firstOf s.data.toList e := by
            intro e he
            unfold firstOf first
            rw [if_neg h8n, ← h4.out, hf, if_neg (by simp; omega)]
            exact ⟨_, he⟩
          have HF := Lib.hid hfo
          clear hfo hf hs hlen h8n hcp2
          go_wp2_with (go_at_call 75; ((with_reducible refine (FY.out _).mono ?_); rintro e w1 ⟨rfl, rfl⟩))
          go_ret2
          exact ⟨HF.out _ rfl, (Below.refl _ _).alloc (Nat.le_refl _) _⟩
        · obtain ⟨hf1, hf2⟩ := of_decide_eq_true hf
          have hr : (s.extract 8 (8 + n)).data.toList = (s.data.toList.drop 8).take n := by
            rw [ByteArray.data_extract]; simp
          have hrs : (s.extract 8 (8 + n)).size = n := by simp; omega
          have h8' : s.data.toList.take 8 = [b0, b1, b2, b3, b4, b5, b6, b7] := by rw [hs]; rfl
          have hfo : ∀ e, (hd (s.extract 8 (8 + n)).data.toList = [b0, b1, b2, b3, b4, b5, b6, b7] → e = .returned (.tuple #[.string (s.extract 8 (8 + n)), .bool true]) → firstOf s.data.toList e) ∧ (hd (s.extract 8 (8 + n)).data.toList ≠ [b0, b1, b2, b3, b4, b5, b6, b7] → e = .returned (.tuple #[.string (s.extract 8 (8 + n)), .bool false]) → firstOf s.data.toList e) := by
            intro e
            rw [hr, ← h8']
            have hc : (fits (num (s.data.toList.take 4)) && decide (num (s.data.toList.take 4) ≤ s.data.toList.length - 8)) = true := by rw [← h4.out, hf]; simp; omega
            constructor
            · intro hh he
              unfold firstOf first
              rw [if_neg h8n, if_pos hc, ← h4.out, if_pos hh, ← hr]
              exact he
            · intro hh he
              unfold firstOf first
              rw [if_neg h8n, if_pos hc, ← h4.out, if_neg hh]
              exact ⟨_, he⟩
          have HF := Lib.hid hfo
          have hsl := Own.slice_str (P := Tryz.prog) Tryz.underlying9 s 8 (8 + n) 8 (8 + (n : Int)) rfl (by omega) (by omega) (by omega)
          clear hfo hf hs hlen h8n hcp2 hr h8' hf1
          go_wp2_with (go_at_call 75; ((with_reducible refine (FY.out _).mono ?_); rintro e w1 ⟨rfl, rfl⟩))
          generalize s.extract 8 (8 + n) = R at hrs HF ⊢
          have hR : R.size ≤ 4096 := by omega
          have HO := Lib.hid (headOf_any R hR)
          have heql : ∀ w', Sem.run Tryz.prog (binOp .eql 108 (.agg (Own.byteVals (hd R.data.toList)).toArray) (.agg #[.int .u8 b0.toNat, .int .u8 b1.toNat, .int .u8 b2.toNat, .int .u8 b3.toNat, .int .u8 b4.toNat, .int .u8 b5.toNat, .int .u8 b6.toNat, .int .u8 b7.toNat])) w' = .ok (.bool (hd R.data.toList == [b0, b1, b2, b3, b4, b5, b6, b7])) w' :=
            fun w' => run_eql_bytes w' 108 5 8 Tryz.underlying108 Tryz.underlying5 (fun w => by kernel_rfl) _ [b0, b1, b2, b3, b4, b5, b6, b7] rfl rfl
          have hu := Tryz.underlying108
          have hi : (Tryz.prog.info? 108).map (·.size) = some ([.int .u8 b0.toNat, .int .u8 b1.toNat, .int .u8 b2.toNat, .int .u8 b3.toNat, .int .u8 b4.toNat, .int .u8 b5.toNat, .int .u8 b6.toNat, .int .u8 b7.toNat] : List Value).length := by kernel_rfl
          have hrow := Own.heap_new w (.cells #[.int .u8 b0.toNat, .int .u8 b1.toNat, .int .u8 b2.toNat, .int .u8 b3.toNat, .int .u8 b4.toNat, .int .u8 b5.toNat, .int .u8 b6.toNat, .int .u8 b7.toNat] 108)
          have HBW : Hid (Below w.heap.size w (w.alloc (.cells #[.int .u8 b0.toNat, .int .u8 b1.toNat, .int .u8 b2.toNat, .int .u8 b3.toNat, .int .u8 b4.toNat, .int .u8 b5.toNat, .int .u8 b6.toNat, .int .u8 b7.toNat] 108))) := (Below.refl _ _).alloc (Nat.le_refl _) _
          generalize w.alloc (.cells #[.int .u8 b0.toNat, .int .u8 b1.toNat, .int .u8 b2.toNat, .int .u8 b3.toNat, .int .u8 b4.toNat, .int .u8 b5.toNat, .int .u8 b6.toNat, .int .u8 b7.toNat] 108) = W at hrow HBW ⊢
          have hC : C8 W w.heap.size (.int .u8 b0.toNat) (.int .u8 b1.toNat) (.int .u8 b2.toNat) (.int .u8 b3.toNat) (.int .u8 b4.toNat) (.int .u8 b5.toNat) (.int .u8 b6.toNat) (.int .u8 b7.toNat) := by
            unfold C8
            simp only [cell_of_row _ _ _ _ _ _ hrow]
            exact ⟨rfl, rfl, rfl, rfl, rfl, rfl, rfl, rfl⟩
          have HC := Lib.hid hC
          clear hrow hi hC
          go_region_held3 (fun w' => w'.cell? ⟨w.heap.size, 0, none⟩ = some (.int .u8 b0.toNat) ∧ w'.cell? ⟨w.heap.size, 1, none⟩ = some (.int .u8 b1.toNat) ∧ w'.cell? ⟨w.heap.size, 2, none⟩ = some (.int .u8 b2.toNat) ∧ w'.cell? ⟨w.heap.size, 3, none⟩ = some (.int .u8 b3.toNat) ∧ w'.cell? ⟨w.heap.size, 4, none⟩ = some (.int .u8 b4.toNat) ∧ w'.cell? ⟨w.heap.size, 5, none⟩ = some (.int .u8 b5.toNat) ∧ w'.cell? ⟨w.heap.size, 6, none⟩ = some (.int .u8 b6.toNat) ∧ w'.cell? ⟨w.heap.size, 7, none⟩ = some (.int .u8 b7.toNat)) (first | exact HC.out | exact HC1.out) (first | (go_at_call 76; ((with_reducible refine (HO.out _).mono ?_); rintro e w1 ⟨rfl, hb1⟩); have HC1 : Hid (C8 w1 _ _ _ _ _ _ _ _ _) := C8.below (w := W.drew) HC.out hb1))
          have HBF : Hid (Below w.heap.size w w1) := below2 HBW.out.drew hb1
          clear heql hu
          cases hq : (hd R.data.toList == [b0, b1, b2, b3, b4, b5, b6, b7])
          · have hne := Lib.hid (beq_eq_false_iff_ne.1 hq)
            clear hq
            go_wp2
            go_ret2
            exact ⟨(HF.out _).2 hne.out rfl, HBF.out⟩
          · have heq := Lib.hid (eq_of_beq hq)
            clear hq
            go_wp2
            go_ret2
            exact ⟨(HF.out _).1 heq.out rfl, HBF.out⟩
end Frm
end Go.Proofs.YtlhalhilnkneeaaGreatDoor
end
