/- The walk of the statement on a record of as many bytes as may be. -/
import Derived.Test.YtjppoicjbmfhiaaFrmL
import Derived.Test.YtjppoicjbmfhiaaZer
namespace Go.Proofs.Ytjppoicjbmfhiaa
open Go.RowKit
namespace Frm
open In (strVals Strs IsStrs)
open Zer (zs zl run_mk conv_zs)
theorem i64_and7 (n : Int) : bits .and .i64 n 7 = n % 8 := by
  show IntKind.i64.wrap ((BitVec.ofInt 64 n &&& BitVec.ofInt 64 7).toNat : Int) = _
  rw [BitVec.toNat_and, show (BitVec.ofInt 64 7).toNat = 2 ^ 3 - 1 from rfl, Nat.and_two_pow_sub_one_eq_mod, BitVec.toNat_ofInt, IntKind.wrap_i64]
  have h : ((n % ((2 ^ 64 : Nat) : Int)).toNat : Int) = n % ((2 ^ 64 : Nat) : Int) := Int.toNat_of_nonneg (Int.emod_nonneg _ (by decide))
  have h2 : (((n % ((2 ^ 64 : Nat) : Int)).toNat % 2 ^ 3 : Nat) : Int) = n % 8 := by
    rw [Int.natCast_emod, h]
    omega
  rw [h2]
  omega
theorem scan_long (l : List UInt8) (h : fits l.length = true) : scan (put l) = ([l], 8 + l.length) := by
  have := scan_put l [] h
  rw [List.append_nil] at this
  rw [this, scan_none first_nil]
  rfl
set_option maxHeartbeats 1000000 in
theorem frameLong_walk (more : Int) (_h : (Lit.int .i64 more).wf = true) (w : World) :
    Calls Try.prog 6 #[.int .i64 more] w fun e w' => e = .returned (.bool true) ∧ Below w.heap.size w w' := by
  obtain ⟨m, hm, hbm⟩ : ∃ m : Nat, m ≤ 7 ∧ bits .and .i64 more 7 = (m : Int) := ⟨(more % 8).toNat, by omega, by rw [i64_and7]; omega⟩
  obtain ⟨n, hn⟩ : ∃ n : Nat, Hid (n = 4093 + m) := ⟨_, rfl⟩
  have hn1 : (4093 : Int) + (m : Int) = (n : Int) := by have := hn.out; omega
  have hn2 : n ≤ 4100 := by have := hn.out; omega
  have hn3 : 4093 ≤ n := by have := hn.out; omega
  have hmk := run_mk n (by omega)
  have hcv := fun (W : World) => conv_zs n W.heap.size (W.alloc (.cells (zs n) 5)) (heap_alloc_last _ _)
  have hzs : (⟨(zl n).toArray⟩ : ByteArray).size = n := by simp [zl, ByteArray.size]
  have hzl : (zl n).length = n := by simp [zl]
  have hm' : (⟨(zl n).toArray⟩ : ByteArray).size ≤ maxLen := by rw [hzs]; unfold maxLen; omega
  have SZ := Lib.hid (size_any (n : Int) (by omega))

  by_cases h : 4096 < n
  · have hf : fits (⟨(zl n).toArray⟩ : ByteArray).size = false := by rw [hzs]; exact decide_eq_false (by omega)
    have PN := Lib.hid (put_no _ hm' hf)
    have s0 := scan_s ⟨#[]⟩ (by decide) [] rfl
    have S0 : Hid (∀ w : World, Calls Try.prog 15 #[.string ⟨#[]⟩] w fun e w' => (∃ a cap, e = .returned (.tuple #[.slice a 0 cap, .int .i64 0]) ∧ Strs w' a []) ∧ Below w.heap.size w w') := s0
    have hs4 : Hid (size4 (n : Int) = 0) := size4_out (.inr (by omega))
    have h' : (4096 : Int) < (n : Int) := by omega
    clear s0 hf hzs hzl hm'
    go_enter Try.func6, Try.ntmps6
    go_wp2_with (first
      | (go_at_call 9; ((with_reducible refine (PN.out _).mono ?_); rintro e w1 ⟨rfl, hb1⟩))
      | (go_at_call 15; ((with_reducible refine (S0.out _).mono ?_); rintro e w2 ⟨⟨a, cap, rfl, hst⟩, hb2⟩))
      | (go_at_call 13; ((with_reducible refine (SZ.out _).mono ?_); rintro e w3 ⟨rfl, rfl⟩); rw [hs4.out])
      | (go_at_call 8; ((with_reducible refine (awake_any _).mono ?_); rintro e w4 ⟨rfl, hb4⟩)))
    go_ret
    exact ⟨rfl, below2 (below2 (below2 (below_al (Below.refl _ _) _) hb1) hb2) hb4⟩
  · have hf : fits (⟨(zl n).toArray⟩ : ByteArray).size = true := by rw [hzs]; exact decide_eq_true (by omega)
    have hf2 : fits (zl n).length = true := by rw [hzl]; exact decide_eq_true (by omega)
    have hps : (⟨(put (zl n)).toArray⟩ : ByteArray).size = 8 + n := by
      show (put (zl n)).toArray.size = _
      rw [List.size_toArray, put_length, hzl]
    have PY := Lib.hid (put_yes _ hf)
    have s0 := scan_s ⟨(put (zl n)).toArray⟩ (by rw [hps]; omega) [⟨(zl n).toArray⟩] (by show _ = (scan (put (zl n))).1; rw [scan_long _ hf2]; rfl)
    have e2 : ((scan (⟨(put (zl n)).toArray⟩ : ByteArray).data.toList).2 : Int) = 8 + (n : Int) := by
      show ((scan (put (zl n))).2 : Int) = _
      rw [scan_long _ hf2, hzl]
      simp
    rw [e2] at s0
    have S0 : Hid (∀ w : World, Calls Try.prog 15 #[.string ⟨(put (zl n)).toArray⟩] w fun e w' => (∃ a cap, e = .returned (.tuple #[.slice a 1 cap, .int .i64 (8 + (n : Int))]) ∧ Strs w' a [⟨(zl n).toArray⟩]) ∧ Below w.heap.size w w') := s0
    have hs4 : Hid (size4 (n : Int) = 8 + (n : Int)) := size4_in (by omega) (by omega)
    have h' : ¬ (4096 : Int) < (n : Int) := by omega
    obtain ⟨PB, hPB⟩ : ∃ PB : ByteArray, Hid ((⟨(put (zl n)).toArray⟩ : ByteArray) = PB) := ⟨_, rfl⟩
    rw [hPB.out] at S0 hps
    have PY2 : Hid (∀ w : World, Calls Try.prog 9 #[.string ⟨(zl n).toArray⟩] w fun e w' => e = .returned (.tuple #[.string PB, .int .i64 0]) ∧ Below w.heap.size w w') := by
      have := PY.out
      rw [show (⟨(put (⟨(zl n).toArray⟩ : ByteArray).data.toList).toArray⟩ : ByteArray) = PB from hPB.out] at this
      exact this
    have hpi : (PB.size : Int) = 8 + (n : Int) := by omega
    clear s0 hf hf2 hzs hzl hm' PY e2
    go_enter Try.func6, Try.ntmps6
    go_wp2_with (first
      | (go_at_call 9; ((with_reducible refine (PY2.out _).mono ?_); rintro e w1 ⟨rfl, hb1⟩))
      | (go_at_call 15; ((with_reducible refine (S0.out _).mono ?_); rintro e w2 ⟨⟨a, cap, rfl, hst⟩, hb2⟩))
      | (go_at_call 13; ((with_reducible refine (SZ.out _).mono ?_); rintro e w3 ⟨rfl, rfl⟩); rw [hs4.out])
      | (go_at_call 8; ((with_reducible refine (awake_any _).mono ?_); rintro e w4 ⟨rfl, hb4⟩)))
    go_ret
    exact ⟨rfl, below2 (below2 (below2 (below_al (Below.refl _ _) _) hb1) hb2) hb4⟩
end Frm
end Go.Proofs.Ytjppoicjbmfhiaa
