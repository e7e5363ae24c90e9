/- However bytes are parted: the walk of CrcParts. -/
import Derived.Test.YtbjfpdbgjldleaaCrcN
import Derived.Deep.RegionWith
import Derived.Laws.MakeOwn
namespace Go.Proofs.Ytbjfpdbgjldleaa
open Go.RowKit
namespace Crc
/-- The texts ahead of the k-th, one behind the other. -/
def cat (l : List ByteArray) : Nat → List UInt8
  | 0 => []
  | k + 1 => cat l k ++ (l.getD k ByteArray.empty).data.toList
theorem cat_length (l : List ByteArray) (h : ∀ s ∈ l, (s.size : Int) ≤ 256) : ∀ k, k ≤ l.length → (cat l k).length ≤ 256 * k
  | 0, _ => by simp [cat]
  | k + 1, hk => by
    have := cat_length l h k (by omega)
    have h2 := h _ (getD_mem l k (by omega))
    have e : (l.getD k ByteArray.empty).data.toList.length = (l.getD k ByteArray.empty).size := by simp
    rw [cat, List.length_append, e]
    omega
theorem sum_snoc (a b : List UInt8) : more (sum a) b = sum (a ++ b) := by
  rw [sum, more, sum, more, more, BitVec.not_not]
  congr 1
  simp [run]
theorem stps8 (n : Nat) (x : BitVec 32) : stps (8 * n) x = run x (List.replicate n 0) := by
  induction n generalizing x with
  | zero => rfl
  | succ n ih =>
    rw [Nat.mul_succ, Nat.add_comm, stps_add, List.replicate_succ]
    show _ = run (byt x 0) (List.replicate n 0)
    rw [ih]
    congr 1
    rw [byt]
    congr 1
    show x = x ^^^ 0#32
    rw [BitVec.xor_zero]
theorem zeros_sum (a : List UInt8) (n : Nat) (h : n ≤ 1048576) : zeros (sum a) (n : Int) = sum (a ++ List.replicate n 0) := by
  rw [← sum_snoc, zeros, zer, more, stps8, show min (n : Int).toNat 1048576 = n by omega]
theorem ba_append (l : List UInt8) (s : ByteArray) : (⟨l.toArray⟩ : ByteArray) ++ s = ⟨(l ++ s.data.toList).toArray⟩ := by
  apply ByteArray.ext
  rw [ByteArray.data_append]
  simp
theorem ba_append2 (l m : List UInt8) : (⟨l.toArray⟩ : ByteArray) ++ ⟨m.toArray⟩ = ⟨(l ++ m).toArray⟩ := ba_append l ⟨m.toArray⟩
/-- A new row of bytes 0. -/
def zs (m : Nat) : Array Value := madeCells #[.int .u8 0] m
theorem run_mk (m : Nat) (hm : m ≤ 4096) (w : World) : (Instr.makeSlice 31 (.int .i64 (m : Int)) (.int .i64 (m : Int))).run Try.prog w = .ok (.slice (some ⟨w.heap.size, 0, none⟩) m m) (w.alloc (.cells (zs m) 5)) := by
  obtain ⟨i0, hi, hz0, hz1, hz2⟩ := info_parts uinfo
  have := run_makeSlice (P := Try.prog) (w := w) 31 5 i0 (.int .u8 0) Try.underlying31 hi hz0 .i64 .i64 m m (by omega) (by omega) (by rw [hz1]; omega) (by rw [hz2]; omega) (by omega)
  rw [this, hz1]
  simp [zs, Value.cells]
theorem zs_get (m j : Nat) (h : j < m) : (zs m)[j]? = some (.int .u8 0) := by
  simp [zs, madeCells, h, Nat.mod_one]
/-- So many bytes 0. -/
def zl (m : Nat) : List UInt8 := List.replicate m 0
theorem conv_zs (m : Nat) (b : Nat) (W : World) (h : W.heap[b]? = some (.cells (zs m) 5)) : (convert 31 9 (.slice (some ⟨b, 0, none⟩) m m)).run Try.prog W = .ok (.string ⟨(zl m).toArray⟩) W := by
  have := run_convert_bytes_back (P := Try.prog) W 31 9 5 ⟨b, 0, none⟩ m (List.replicate m 0) Try.underlying31 Try.underlying5 Try.underlying9 (fun j hj => by
    have hj' : j < m := by simpa using hj
    have hadd : (⟨b, 0, none⟩ : Addr).add j = ⟨b, j, none⟩ := by unfold Addr.add; split <;> simp_all
    rw [hadd, cell_of_row _ _ _ _ _ _ h, zs_get m j hj']
    simp)
  simpa [zl] using this
theorem u16_and_1023 (n : Int) (h : (Lit.int .u16 n).wf = true) : ∃ m : Nat, m ≤ 1023 ∧ bits .and .u16 n 1023 = (m : Int) := by
  have hb := bounds_u16 h
  refine ⟨n.toNat &&& 1023, ?_, ?_⟩
  · exact Nat.and_le_right
  · rw [u16_and n 1023 hb.1 (by omega) (by omega) (by omega)]; rfl
theorem below_al {w x : World} (h : Below w.heap.size w x) (o : Obj) : Below w.heap.size w (x.alloc o) := h.alloc h.size o
set_option maxHeartbeats 1000000 in
theorem crcParts_walk (w : World) (v : Value) (l : List ByteArray) (hw : In.IsStrs w v l) (n : Int) (hn : (Lit.int .u16 n).wf = true) :
    Calls Try.prog 4 #[v, .int .u16 n] w fun e w' => e = .returned (.bool true) ∧ Below w.heap.size w w' := by
  obtain ⟨a, cap, rfl, hlen, hs, hsz⟩ := hw
  obtain ⟨m, hm, hbm⟩ := u16_and_1023 n hn
  have FA := few_any a cap l 12 256 hlen
  cases hfew : few l 12 256
  · go_enter Try.func4, Try.ntmps4
    rw [hfew] at FA
    have FA := Lib.hid FA
    clear hbm
    go_wp2_with (first
      | (go_at_call 13; ((with_reducible refine (FA.out _ hs hsz (by decide)).mono ?_); rintro e w1 ⟨rfl, rfl⟩))
      | (go_at_call 8; ((with_reducible refine (awake_any _).mono ?_); rintro e w2 ⟨rfl, hb2⟩)))
    go_ret
    exact ⟨rfl, hb2⟩
  · obtain ⟨hl12, hl256⟩ := of_decide_eq_true hfew
    have HL := Lib.hid (cat_length l hl256)
    have HC := Lib.hid (fun k (hk : k ≤ l.length) => (by have := cat_length l hl256 k hk; omega : (cat l k).length ≤ 3072))
    rw [hfew] at FA
    have FA := Lib.hid FA
    have hl' : l.length ≤ 12 := by omega
    have H256 := Lib.hid hl256
    clear hfew hlen hl12 hl256 HL
    go_enter Try.func4, Try.ntmps4
    go_wp2_with (first
      | (go_at_call 13; ((with_reducible refine (FA.out _ hs hsz (by decide)).mono ?_); rintro e w1 ⟨rfl, rfl⟩))
      | (go_at_call 9; ((with_reducible refine (c7 _).mono ?_); rintro e w1 ⟨rfl, hb1⟩)))
    go_loopw [5, 6, 7] (fun al sm i wr => ∃ k : Nat, k ≤ l.length ∧ i = .int .i64 k ∧ al = .string ⟨(cat l k).toArray⟩ ∧ sm = .int .u32 (U (sum (cat l k))) ∧ Below w.heap.size w wr) (fun _ _ i _ => l.length - (intOf i).toNat)
    case atStart => exact ⟨0, by omega, rfl, rfl, by rw [show U (sum (cat l 0)) = 0 from e6], hb1⟩
    case round =>
      obtain ⟨k, hk, rfl, rfl, rfl, hb⟩ := hrel
      have HB := Lib.hid hb
      have hs1 := hs.below hb
      clear hb
      by_cases hlt : k < l.length
      · obtain ⟨b, off, rfl, hb, hc⟩ := hs1 k hlt
        have hsk := hsz _ (getD_mem l k hlt)
        have hs2 := H256.out _ (getD_mem l k hlt)
        have hcat : Hid (cat l (k + 1) = cat l k ++ (l.getD k ByteArray.empty).data.toList) := rfl
        clear hs hs1
        generalize l.getD k ByteArray.empty = s at hc hsk hs2 hcat
        have h3 : (cat l k).length + s.size ≤ 4096 := by have := HC.out k hk; omega
        go_wp2_with (go_at_call 11; ((with_reducible refine (more_any _ s hsk _).mono ?_); rintro e w3 ⟨rfl, hb3⟩))
        go_roundw
        case rel => exact ⟨k + 1, by omega, by go_num, by rw [hcat.out, ← ba_append], by rw [hcat.out, sum_snoc], below2 HB.out hb3⟩
        case measure => simp [intOf]; omega
      · have hke : k = l.length := by omega
        have h3 := HC.out k hk
        have hz : (U (zeros (sum (cat l k)) (m : Int)) == U (sum (cat l k ++ zl m))) = true := by rw [zeros_sum _ m (by omega)]; simp [zl]
        have hm2 : (m : Int) ≤ 9223372036854775807 := by omega
        have hl1 : (cat l k).length ≤ maxLen := by unfold maxLen; omega
        have hl2 : (cat l k ++ zl m).length ≤ maxLen := by unfold maxLen; simp [zl]; omega
        have hmk := run_mk m (by omega)
        have hcv := fun (W : World) => conv_zs m W.heap.size (W.alloc (.cells (zs m) 5)) (heap_alloc_last _ _)
        have h5 : ¬ (k : Int) < (l.length : Int) := by omega
        have hsum : (cat l k).length + m ≤ 9000 := by omega
        have H1 := Lib.hid hl1
        have H2 := Lib.hid hl2
        have H3 := Lib.hid hm2
        clear hs hs1 FA HC hke hl1 hl2 hm2 hsz H256
        have hzl : (zl m).length = m := by simp [zl]
        have hba := ba_append2 (cat l k) (zl m)
        go_wp2
        go_region_with (first
          | (go_at_call 9; ((with_reducible refine (sum_arr (cat l k) H1.out _).mono ?_); rintro e w2 ⟨rfl, hb2⟩))
          | (go_at_call 14; ((with_reducible refine (zeros_any _ (m : Int) H3.out _).mono ?_); rintro e w3 ⟨rfl, hb3⟩); (try have hcv3 := conv_zs m _ _ ((hb3.block _ (by simp)).trans (heap_alloc_last _ _))))
          | (go_at_call 9; ((with_reducible refine (sum_arr (cat l k ++ zl m) H2.out _).mono ?_); rintro e w4 ⟨rfl, hb4⟩))
          | (go_at_call 8; ((with_reducible refine (awake_any _).mono ?_); rintro e w5 ⟨rfl, hb5⟩)))
        all_goals
          go_wp2
          go_ret
          exact ⟨rfl, by
            have HB := HB.out
            repeat (first | exact HB | apply Below.drew | (apply below_al) | (refine below2 ?_ (by assumption)))⟩
end Crc
end Go.Proofs.Ytbjfpdbgjldleaa
