/- The walk of the record with which bytes begin. -/
import Derived.Test.YtjppoicjbmfhiaaFrmW
import Derived.Deep.RegionHeld3
import Derived.Deep.MidRow
import Derived.Deep.WholeRow
import Derived.Stop.BytesEq
import Derived.Lib.BufferWrite
namespace Go.Proofs.Ytjppoicjbmfhiaa
open Go.RowKit
namespace Frm
open Crc (sum sum_any refSum_any)
theorem or_join (n : Nat) (b : UInt8) (h : n < 1099511627776) : bits .or .i64 ((n : Int) * 256) (b.toNat : Int) = ((n * 256 + b.toNat : Nat) : Int) := by
  have hb := b.toNat_lt
  show IntKind.i64.wrap ((BitVec.ofInt 64 ((n : Int) * 256) ||| BitVec.ofInt 64 (b.toNat : Int)).toNat : Int) = _
  have e1 : (BitVec.ofInt 64 ((n : Int) * 256)).toNat = n * 256 := by rw [BitVec.toNat_ofInt]; omega
  have e2 : (BitVec.ofInt 64 (b.toNat : Int)).toNat = b.toNat := by rw [BitVec.toNat_ofInt]; omega
  rw [BitVec.toNat_or, e1, e2, nat_join 8 _ _ (by omega) (by omega), IntKind.wrap_i64]
  omega
/-- The first eight bytes as cells. -/
def zero8 : Array Value := (Own.byteVals (List.replicate 8 0)).toArray
theorem run_copy8 {P : Program} (w : World) (dT sT ty elem : TypeId) (g : Nat) (s : ByteArray) (cur : Array Value) (t : TypeId)
    (hu : P.underlying dT = some (.slice elem)) (hs : (P.info? elem).map (·.size) = some 1) (hg : w.heap[g]? = some (.cells cur t (0, 0))) (hle : 8 ≤ s.size) (hfit : cur.size = 8) :
    (Builtin.copy_ #[dT, sT] ty #[.slice (some ⟨g, 0, none⟩) 8 8, .string s]).run P w =
      .ok (goInt 8) (w.setRow g (Own.byteVals (s.data.toList.take 8)).toArray) := by
  have hlen : (Lib.byteCells (s.data.toList.take 8)).length = 8 := by rw [Lib.byteCells_length, List.length_take]; simp; omega
  have hst := run_storeCells_at P g 0 t (Lib.byteCells (s.data.toList.take 8)) 0 cur w hg (by rw [hlen]; omega) (Lib.byteCells_one _)
  have hmin : Nat.min s.size 8 = 8 := Nat.min_eq_right hle
  have htk : List.take 8 (List.map (fun b : UInt8 => Value.int IntKind.u8 (b.toNat : Int)) s.data.toList) = Lib.byteCells (s.data.toList.take 8) := by
    rw [← List.map_take]
    rfl
  rw [hlen] at hst
  simp only [Nat.add_zero] at hst
  cases hq : P.info? elem with
  | none => simp [hq] at hs
  | some i =>
    simp [Builtin.copy_, run_underlying hu, Builtin.lenOf, Builtin.firstCells, sizeOf, typeInfo, hq, hmin]
    rw [htk, hst]
    have e : cur.toList.drop 8 = [] := List.drop_eq_nil_of_le (by simpa using Nat.le_of_eq hfit)
    simp [Result.andThen, e]
    rfl
set_option maxHeartbeats 1000000 in
theorem first_short_walk (s : ByteArray) (h : s.size < 8) (w : World) :
    Calls Try.prog 22 #[.string s] w fun e w' => e = .returned (.tuple #[.string ⟨#[]⟩, .bool false]) ∧ w = w' := by
  go_enter Try.func22, Try.ntmps22
  go_wp2
  go_ret2
  exact ⟨rfl, rfl⟩
theorem eight (l : List UInt8) (h : 8 ≤ l.length) : ∃ b0 b1 b2 b3 b4 b5 b6 b7 t, l = b0 :: b1 :: b2 :: b3 :: b4 :: b5 :: b6 :: b7 :: t := by
  match l, h with
  | b0 :: b1 :: b2 :: b3 :: b4 :: b5 :: b6 :: b7 :: t, _ => exact ⟨b0, b1, b2, b3, b4, b5, b6, b7, t, rfl⟩
/-- Eight cells. -/
def C8 (w : World) (g : Nat) (v0 v1 v2 v3 v4 v5 v6 v7 : Value) : Prop :=
  w.cell? ⟨g, 0, none⟩ = some v0 ∧ w.cell? ⟨g, 1, none⟩ = some v1 ∧ w.cell? ⟨g, 2, none⟩ = some v2 ∧ w.cell? ⟨g, 3, none⟩ = some v3 ∧ w.cell? ⟨g, 4, none⟩ = some v4 ∧ w.cell? ⟨g, 5, none⟩ = some v5 ∧ w.cell? ⟨g, 6, none⟩ = some v6 ∧ w.cell? ⟨g, 7, none⟩ = some v7
theorem C8.below {w w' : World} {g : Nat} {v0 v1 v2 v3 v4 v5 v6 v7 : Value} (h : C8 w g v0 v1 v2 v3 v4 v5 v6 v7) (hb : Below w.heap.size w w') : C8 w' g v0 v1 v2 v3 v4 v5 v6 v7 := by
  have hg : g < w.heap.size := block_lt_of_cell h.1
  have e : ∀ j, w'.cell? ⟨g, j, none⟩ = w.cell? ⟨g, j, none⟩ := fun j => hb.cell (p := ⟨g, j, none⟩) hg
  unfold C8
  rw [e, e, e, e, e, e, e, e]
  exact h
/-- What is told of the record with which bytes begin. -/
def firstOf (l : List UInt8) (e : Ending) : Prop :=
  match first l with
  | some r => e = .returned (.tuple #[.string ⟨r.toArray⟩, .bool true])
  | none => ∃ t, e = .returned (.tuple #[.string t, .bool false])
set_option maxHeartbeats 1000000 in
theorem first_long (s : ByteArray) (h8 : 8 ≤ s.size) (hm : s.size ≤ maxLen) (w : World) :
    Calls Try.prog 22 #[.string s] w fun e w' => firstOf s.data.toList e ∧ Below w.heap.size w w' := by
  have hm' := hm
  unfold maxLen at hm'
  obtain ⟨b0, b1, b2, b3, b4, b5, b6, b7, t, hs⟩ := eight s.data.toList (by simpa using h8)
  have hcp := run_copy8 (P := Try.prog) (w.alloc (.cells zero8 42)) 37 9 3 5 w.heap.size s zero8 42 Try.underlying37 (by kernel_rfl) (Own.heap_new _ _) h8 rfl
  rw [World.setRow_alloc_new, hs] at hcp
  have hcp2 : Sem.run Try.prog (Builtin.copy_ #[37, 9] 3 #[.slice (some ⟨w.heap.size, 0, none⟩) 8 8, .string s]) (w.alloc (.cells #[.int .u8 0, .int .u8 0, .int .u8 0, .int .u8 0, .int .u8 0, .int .u8 0, .int .u8 0, .int .u8 0] 42)) = .ok (.int .i64 8) (w.alloc (.cells #[.int .u8 b0.toNat, .int .u8 b1.toNat, .int .u8 b2.toNat, .int .u8 b3.toNat, .int .u8 b4.toNat, .int .u8 b5.toNat, .int .u8 b6.toNat, .int .u8 b7.toNat] 42)) := hcp
  have hlt : ¬ s.size < 8 := by omega
  clear hcp
  go_enter Try.func22, Try.ntmps22
  go_wp2
  have h80 : b0.toNat < 256 := b0.toNat_lt
  have h81 : b1.toNat < 256 := b1.toNat_lt
  have h82 : b2.toNat < 256 := b2.toNat_lt
  have h83 : b3.toNat < 256 := b3.toNat_lt
  go_loop [5, 17] (fun n i => ∃ k : Nat, k ≤ 4 ∧ i = .int .i64 k ∧ n = .int .i64 ((num ([b0, b1, b2, b3].take k) : Nat) : Int)) (fun _ i => 4 - (intOf i).toNat)
  case atStart => exact ⟨0, by omega, rfl, rfl⟩
  case round =>
    obtain ⟨k, hk, rfl, rfl⟩ := hrel
    by_cases hlt4 : k < 4
    · match k, hlt4 with
      | 0, _ =>
        have hj := or_join (num ([b0, b1, b2, b3].take 0)) b0 (by simp [num]; try omega)
        have hn : Hid ((num ([b0, b1, b2, b3].take 1) : Nat) = num ([b0, b1, b2, b3].take 0) * 256 + b0.toNat) := rfl
        have hlo : ((num ([b0, b1, b2, b3].take 0) : Nat) : Int) ≤ 0 := by simp [num]; try omega
        generalize num ([b0, b1, b2, b3].take 0) = n at hj hn hlo ⊢
        go_wp2
        go_round
        case rel => exact ⟨1, by omega, rfl, congrArg (Value.int .i64) (by rw [hn.out]; omega)⟩
        case measure => simp [intOf]
      | 1, _ =>
        have hj := or_join (num ([b0, b1, b2, b3].take 1)) b1 (by simp [num]; try omega)
        have hn : Hid ((num ([b0, b1, b2, b3].take 2) : Nat) = num ([b0, b1, b2, b3].take 1) * 256 + b1.toNat) := rfl
        have hlo : ((num ([b0, b1, b2, b3].take 1) : Nat) : Int) ≤ 255 := by simp [num]; try omega
        generalize num ([b0, b1, b2, b3].take 1) = n at hj hn hlo ⊢
        go_wp2
        go_round
        case rel => exact ⟨2, by omega, rfl, congrArg (Value.int .i64) (by rw [hn.out]; omega)⟩
        case measure => simp [intOf]
      | 2, _ =>
        have hj := or_join (num ([b0, b1, b2, b3].take 2)) b2 (by simp [num]; try omega)
        have hn : Hid ((num ([b0, b1, b2, b3].take 3) : Nat) = num ([b0, b1, b2, b3].take 2) * 256 + b2.toNat) := rfl
        have hlo : ((num ([b0, b1, b2, b3].take 2) : Nat) : Int) ≤ 65535 := by simp [num]; try omega
        generalize num ([b0, b1, b2, b3].take 2) = n at hj hn hlo ⊢
        go_wp2
        go_round
        case rel => exact ⟨3, by omega, rfl, congrArg (Value.int .i64) (by rw [hn.out]; omega)⟩
        case measure => simp [intOf]
      | 3, _ =>
        have hj := or_join (num ([b0, b1, b2, b3].take 3)) b3 (by simp [num]; try omega)
        have hn : Hid ((num ([b0, b1, b2, b3].take 4) : Nat) = num ([b0, b1, b2, b3].take 3) * 256 + b3.toNat) := rfl
        have hlo : ((num ([b0, b1, b2, b3].take 3) : Nat) : Int) ≤ 16777215 := by simp [num]; try omega
        generalize num ([b0, b1, b2, b3].take 3) = n at hj hn hlo ⊢
        go_wp2
        go_round
        case rel => exact ⟨4, by omega, rfl, congrArg (Value.int .i64) (by rw [hn.out]; omega)⟩
        case measure => simp [intOf]
    · have : k = 4 := by omega
      subst this
      have h4 : Hid (num ([b0, b1, b2, b3].take 4) = num (s.data.toList.take 4)) := by show num _ = _; rw [hs]; rfl
      have hlo : ((num ([b0, b1, b2, b3].take 4) : Nat) : Int) ≤ 4294967295 := by simp [num]; omega
      generalize num ([b0, b1, b2, b3].take 4) = n at h4 hlo ⊢
      have hlen : s.data.toList.length = s.size := by simp
      have h8n : ¬ s.data.toList.length < 8 := by omega
      cases hf : fits n
      · have hfo : ∀ e, e = .returned (.tuple #[.string ⟨#[]⟩, .bool false]) → firstOf s.data.toList e := by
          intro e he
          unfold firstOf first
          rw [if_neg h8n, ← h4.out, hf]
          exact ⟨_, he⟩
        have HF := Lib.hid hfo
        have FN := Lib.hid (fits_no n hf)
        clear hfo hf hs hlen h8n hcp2
        go_wp2_with (go_at_call 20; ((with_reducible refine (FN.out _).mono ?_); rintro e w1 ⟨rfl, rfl⟩))
        go_ret2
        exact ⟨HF.out _ rfl, (Below.refl _ _).alloc (Nat.le_refl _) _⟩
      · have FY := Lib.hid (fits_yes n hf)
        by_cases hgt : (s.size : Int) - 8 < (n : Int)
        · have hfo : ∀ e, e = .returned (.tuple #[.string ⟨#[]⟩, .bool false]) → firstOf s.data.toList e := by
            intro e he
            unfold firstOf first
            rw [if_neg h8n, ← h4.out, hf, if_neg (by simp; omega)]
            exact ⟨_, he⟩
          have HF := Lib.hid hfo
          clear hfo hf hs hlen h8n hcp2
          go_wp2_with (go_at_call 20; ((with_reducible refine (FY.out _).mono ?_); rintro e w1 ⟨rfl, rfl⟩))
          go_ret2
          exact ⟨HF.out _ rfl, (Below.refl _ _).alloc (Nat.le_refl _) _⟩
        · obtain ⟨hf1, hf2⟩ := of_decide_eq_true hf
          have hr : (s.extract 8 (8 + n)).data.toList = (s.data.toList.drop 8).take n := by
            rw [ByteArray.data_extract]; simp
          have hrs : (s.extract 8 (8 + n)).size = n := by simp; omega
          have h8' : s.data.toList.take 8 = [b0, b1, b2, b3, b4, b5, b6, b7] := by rw [hs]; rfl
          have hfo : ∀ e, (hd (s.extract 8 (8 + n)).data.toList = [b0, b1, b2, b3, b4, b5, b6, b7] → e = .returned (.tuple #[.string (s.extract 8 (8 + n)), .bool true]) → firstOf s.data.toList e) ∧ (hd (s.extract 8 (8 + n)).data.toList ≠ [b0, b1, b2, b3, b4, b5, b6, b7] → e = .returned (.tuple #[.string (s.extract 8 (8 + n)), .bool false]) → firstOf s.data.toList e) := by
            intro e
            rw [hr, ← h8']
            have hc : (fits (num (s.data.toList.take 4)) && decide (num (s.data.toList.take 4) ≤ s.data.toList.length - 8)) = true := by rw [← h4.out, hf]; simp; omega
            constructor
            · intro hh he
              unfold firstOf first
              rw [if_neg h8n, if_pos hc, ← h4.out, if_pos hh, ← hr]
              exact he
            · intro hh he
              unfold firstOf first
              rw [if_neg h8n, if_pos hc, ← h4.out, if_neg hh]
              exact ⟨_, he⟩
          have HF := Lib.hid hfo
          have hsl := Own.slice_str (P := Try.prog) Try.underlying9 s 8 (8 + n) 8 (8 + (n : Int)) rfl (by omega) (by omega) (by omega)
          clear hfo hf hs hlen h8n hcp2 hr h8' hf1
          go_wp2_with (go_at_call 20; ((with_reducible refine (FY.out _).mono ?_); rintro e w1 ⟨rfl, rfl⟩))
          generalize s.extract 8 (8 + n) = R at hrs HF ⊢
          have hR : R.size ≤ 4096 := by omega
          have HO := Lib.hid (headOf_any R hR)
          have heql : ∀ w', Sem.run Try.prog (binOp .eql 42 (.agg (Own.byteVals (hd R.data.toList)).toArray) (.agg #[.int .u8 b0.toNat, .int .u8 b1.toNat, .int .u8 b2.toNat, .int .u8 b3.toNat, .int .u8 b4.toNat, .int .u8 b5.toNat, .int .u8 b6.toNat, .int .u8 b7.toNat])) w' = .ok (.bool (hd R.data.toList == [b0, b1, b2, b3, b4, b5, b6, b7])) w' :=
            fun w' => run_eql_bytes w' 42 5 8 Try.underlying42 Try.underlying5 (fun w => by kernel_rfl) _ [b0, b1, b2, b3, b4, b5, b6, b7] rfl rfl
          have hu := Try.underlying42
          have hi : (Try.prog.info? 42).map (·.size) = some ([.int .u8 b0.toNat, .int .u8 b1.toNat, .int .u8 b2.toNat, .int .u8 b3.toNat, .int .u8 b4.toNat, .int .u8 b5.toNat, .int .u8 b6.toNat, .int .u8 b7.toNat] : List Value).length := by kernel_rfl
          have hrow := Own.heap_new w (.cells #[.int .u8 b0.toNat, .int .u8 b1.toNat, .int .u8 b2.toNat, .int .u8 b3.toNat, .int .u8 b4.toNat, .int .u8 b5.toNat, .int .u8 b6.toNat, .int .u8 b7.toNat] 42)
          have HBW : Hid (Below w.heap.size w (w.alloc (.cells #[.int .u8 b0.toNat, .int .u8 b1.toNat, .int .u8 b2.toNat, .int .u8 b3.toNat, .int .u8 b4.toNat, .int .u8 b5.toNat, .int .u8 b6.toNat, .int .u8 b7.toNat] 42))) := (Below.refl _ _).alloc (Nat.le_refl _) _
          generalize w.alloc (.cells #[.int .u8 b0.toNat, .int .u8 b1.toNat, .int .u8 b2.toNat, .int .u8 b3.toNat, .int .u8 b4.toNat, .int .u8 b5.toNat, .int .u8 b6.toNat, .int .u8 b7.toNat] 42) = W at hrow HBW ⊢
          have hC : C8 W w.heap.size (.int .u8 b0.toNat) (.int .u8 b1.toNat) (.int .u8 b2.toNat) (.int .u8 b3.toNat) (.int .u8 b4.toNat) (.int .u8 b5.toNat) (.int .u8 b6.toNat) (.int .u8 b7.toNat) := by
            unfold C8
            simp only [cell_of_row _ _ _ _ _ _ hrow]
            exact ⟨rfl, rfl, rfl, rfl, rfl, rfl, rfl, rfl⟩
          have HC := Lib.hid hC
          clear hrow hi hC
          go_region_held3 (fun w' => w'.cell? ⟨w.heap.size, 0, none⟩ = some (.int .u8 b0.toNat) ∧ w'.cell? ⟨w.heap.size, 1, none⟩ = some (.int .u8 b1.toNat) ∧ w'.cell? ⟨w.heap.size, 2, none⟩ = some (.int .u8 b2.toNat) ∧ w'.cell? ⟨w.heap.size, 3, none⟩ = some (.int .u8 b3.toNat) ∧ w'.cell? ⟨w.heap.size, 4, none⟩ = some (.int .u8 b4.toNat) ∧ w'.cell? ⟨w.heap.size, 5, none⟩ = some (.int .u8 b5.toNat) ∧ w'.cell? ⟨w.heap.size, 6, none⟩ = some (.int .u8 b6.toNat) ∧ w'.cell? ⟨w.heap.size, 7, none⟩ = some (.int .u8 b7.toNat)) (first | exact HC.out | exact HC1.out) (first | (go_at_call 21; ((with_reducible refine (HO.out _).mono ?_); rintro e w1 ⟨rfl, hb1⟩); have HC1 : Hid (C8 w1 _ _ _ _ _ _ _ _ _) := C8.below (w := W.drew) HC.out hb1))
          have HBF : Hid (Below w.heap.size w w1) := below2 HBW.out.drew hb1
          clear heql hu
          cases hq : (hd R.data.toList == [b0, b1, b2, b3, b4, b5, b6, b7])
          · have hne := Lib.hid (beq_eq_false_iff_ne.1 hq)
            clear hq
            go_wp2
            go_ret2
            exact ⟨(HF.out _).2 hne.out rfl, HBF.out⟩
          · have heq := Lib.hid (eq_of_beq hq)
            clear hq
            go_wp2
            go_ret2
            exact ⟨(HF.out _).1 heq.out rfl, HBF.out⟩
end Frm
end Go.Proofs.Ytjppoicjbmfhiaa
