/- Numbers with a sign as bytes, and read: both sides. -/
import Derived.Test.YtmaddebfoefckaaDoorPenU
import Derived.Test.YtmaddebfoefckaaDoorPenR2
import Derived.Test.YtmaddebfoefckaaDoorPenS2
import Derived.Test.YtmaddebfoefckaaDoorPenL
set_option linter.unusedSimpArgs false
namespace Go.Proofs.YtmaddebfoefckaaDoor
open Go.RowKit
namespace Pen
/-- A number's place. -/
def zig (n : Int) : Nat := if 0 ≤ n then (2 * n).toNat else (2 * (-(n + 1)) + 1).toNat
/-- The number of a place. -/
def zag (m : Nat) : Int := if m % 2 = 0 then ((m / 2 : Nat) : Int) else -((m / 2 : Nat) : Int) - 1
def I64 (n : Int) : Prop := -9223372036854775808 ≤ n ∧ n ≤ 9223372036854775807
theorem zag_zig (n : Int) : zag (zig n) = n := by
  unfold zig zag
  split <;> split <;> omega
theorem zig_zag (m : Nat) : zig (zag m) = m := by
  unfold zig zag
  split <;> split <;> omega
theorem zig_lt {n : Int} (h : I64 n) : zig n < 18446744073709551616 := by
  unfold I64 at h
  unfold zig
  split <;> omega
theorem zag_in {m : Nat} (h : m < 18446744073709551616) : I64 (zag m) := by
  unfold I64 zag
  split <;> omega
def intB (n : Int) : List UInt8 := wb (zig n)
def intS : Option (List UInt8) → Int × Option (List UInt8)
  | none => (0, none)
  | some l => match rd l with
    | none => (0, none)
    | some (m, l') => (zag m, some l')
theorem int_put {n : Int} (h : I64 n) (l : List UInt8) : intS (some (intB n ++ l)) = (n, some l) := by
  unfold intS intB
  simp only [rd_wb (zig n) (by have := zig_lt h; omega) l, zag_zig]
theorem int_back {o : Option (List UInt8)} {l' : List UInt8} (h : (intS o).2 = some l') : o = some (intB (intS o).1 ++ l') := by
  cases o with
  | none => cases h
  | some l =>
    cases hr : rd l with
    | none => simp only [intS, hr] at h; cases h
    | some r =>
      obtain ⟨m, t⟩ := r
      have hb := rd_back hr
      simp only [intS, hr] at h ⊢
      cases h
      unfold intB
      rw [zig_zag, ← hb]
theorem int_in (o : Option (List UInt8)) : I64 (intS o).1 := by
  unfold intS
  split
  · exact ⟨by decide, by decide⟩
  · split
    · exact ⟨by decide, by decide⟩
    · rename_i hr
      have := rd_small hr
      exact zag_in (by omega)
theorem intB_len (n : Int) : (intB n).length ≤ 10 := by have := wbF_len 9 (zig n); unfold intB wb; omega
-- bits
theorem xor_ones (a : Nat) (h : a < 18446744073709551616) : a ^^^ 18446744073709551615 = 18446744073709551615 - a := by
  have h1 : (BitVec.ofNat 64 a ^^^ BitVec.allOnes 64) = ~~~ (BitVec.ofNat 64 a) := BitVec.xor_allOnes
  have h2 := congrArg BitVec.toNat h1
  rw [BitVec.toNat_xor, BitVec.toNat_not, BitVec.toNat_ofNat, BitVec.toNat_allOnes] at h2
  rw [Nat.mod_eq_of_lt (by omega)] at h2
  simpa using h2
theorem u64_nat (a : Nat) : IntKind.u64.wrap (a : Int) = ((a % 18446744073709551616 : Nat) : Int) := by rw [IntKind.wrap_u64]; omega
theorem xor_bits (a b : Nat) : bits .xor .u64 (a : Int) (b : Int) = (((a % 18446744073709551616) ^^^ (b % 18446744073709551616) : Nat) : Int) := by
  show IntKind.u64.wrap (((BitVec.ofInt 64 (a : Int)) ^^^ (BitVec.ofInt 64 (b : Int))).toNat : Int) = _
  have ha : BitVec.ofInt 64 (a : Int) = BitVec.ofNat 64 a := BitVec.ofInt_natCast 64 a
  have hb : BitVec.ofInt 64 (b : Int) = BitVec.ofNat 64 b := BitVec.ofInt_natCast 64 b
  rw [ha, hb, BitVec.toNat_xor, BitVec.toNat_ofNat, BitVec.toNat_ofNat, u64_nat]
  have : (a % 2 ^ 64) ^^^ (b % 2 ^ 64) < 2 ^ 64 := Nat.xor_lt_two_pow (Nat.mod_lt _ (by decide)) (Nat.mod_lt _ (by decide))
  rw [Nat.mod_eq_of_lt (by simpa using this)]
theorem zig_bits {n : Int} (h : I64 n) : bits .xor .u64 (IntKind.u64.wrap (IntKind.u64.wrap n * 2)) (IntKind.u64.wrap (n / 9223372036854775808)) = (zig n : Int) := by
  obtain ⟨h1, h2⟩ := h
  by_cases h0 : 0 ≤ n
  · have e1 : IntKind.u64.wrap (IntKind.u64.wrap n * 2) = ((2 * n).toNat : Int) := by rw [IntKind.wrap_u64, IntKind.wrap_u64]; omega
    have e2 : IntKind.u64.wrap (n / 9223372036854775808) = ((0 : Nat) : Int) := by rw [IntKind.wrap_u64]; omega
    rw [e1, e2, xor_bits]
    unfold zig
    rw [if_pos h0]
    simp
    omega
  · have e1 : IntKind.u64.wrap (IntKind.u64.wrap n * 2) = ((18446744073709551615 - (2 * (-(n + 1)) + 1).toNat : Nat) : Int) := by rw [IntKind.wrap_u64, IntKind.wrap_u64]; omega
    have e2 : IntKind.u64.wrap (n / 9223372036854775808) = ((18446744073709551615 : Nat) : Int) := by rw [IntKind.wrap_u64]; omega
    rw [e1, e2, xor_bits]
    unfold zig
    rw [if_neg h0]
    have hm : (18446744073709551615 - (2 * (-(n + 1)) + 1).toNat) % 18446744073709551616 = 18446744073709551615 - (2 * (-(n + 1)) + 1).toNat := Nat.mod_eq_of_lt (by omega)
    have hk : (18446744073709551615 : Nat) % 18446744073709551616 = 18446744073709551615 := by decide
    rw [hm, hk, xor_ones _ (by omega)]
    omega
set_option maxRecDepth 100000 in
theorem int_any (n : Int) (hn : I64 n) (w : World) :
    Calls Tryd.prog 16 #[.int .i64 n] w fun e w' => e = .returned (.string (bs (intB n))) ∧ Below w.heap.size w w' := by
  have CW : Hid (∀ w, _) := fun w => word_any (zig n) (zig_lt hn) w
  have HZ := Lib.hid (zig_bits hn)
  obtain ⟨hl, hh⟩ := hn
  unfold intB
  go_enter Tryd.func16, Tryd.ntmps16
  go_wp2_with (rw [HZ.out]; go_at_call 31; (with_reducible refine (CW.out _).mono ?_); rintro e w1 ⟨rfl, hb1⟩; have HB1 := Lib.hid hb1; clear hb1)
  go_ret
  exact ⟨rfl, HB1.out⟩
set_option maxRecDepth 100000 in
theorem refInt_any (n : Int) (hn : I64 n) (w : World) :
    Calls Tryd.prog 19 #[.int .i64 n] w fun e w' => e = .returned (.string (bs (intB n))) ∧ Below w.heap.size w w' := by
  have CP : Hid (∀ w, Calls Tryd.prog 33 #[.int .i64 n] w fun e w' => e = .returned (.int .u64 (zig n : Int)) ∧ w = w') := fun w => by
    obtain ⟨hl, hh⟩ := hn
    by_cases h0 : 0 ≤ n
    · have e1 : IntKind.u64.wrap n = n := by rw [IntKind.wrap_u64]; omega
      have e2 : IntKind.u64.wrap (2 * n) = 2 * n := by rw [IntKind.wrap_u64]; omega
      have HZ : Hid (((zig n : Nat) : Int) = 2 * n) := by show _ = _; unfold zig; rw [if_pos h0]; omega
      rw [HZ.out]
      go_enter Tryd.func33, Tryd.ntmps33
      go_wp2
      go_ret
      exact ⟨by simp [e1, e2], rfl⟩
    · have e1 : IntKind.i64.wrap (n + 1) = n + 1 := by rw [IntKind.wrap_i64]; omega
      have e2 : IntKind.i64.wrap (-(n + 1)) = -(n + 1) := by rw [IntKind.wrap_i64]; omega
      have e3 : IntKind.u64.wrap (-(n + 1)) = -(n + 1) := by rw [IntKind.wrap_u64]; omega
      have e4 : IntKind.u64.wrap (2 * -(n + 1)) = 2 * -(n + 1) := by rw [IntKind.wrap_u64]; omega
      have e5 : IntKind.u64.wrap (2 * -(n + 1) + 1) = 2 * -(n + 1) + 1 := by rw [IntKind.wrap_u64]; omega
      have HZ : Hid (((zig n : Nat) : Int) = 2 * -(n + 1) + 1) := by show _ = _; unfold zig; rw [if_neg h0]; omega
      rw [HZ.out]
      go_enter Tryd.func33, Tryd.ntmps33
      go_wp2
      go_ret
      exact ⟨rfl, rfl⟩
  have CR : Hid (∀ w, Calls Tryd.prog 32 #[.int .u64 (zig n : Int)] w fun e w' => e = .returned (.string (bs (wb (zig n)))) ∧ Below w.heap.size w w') := fun w => refWord_any 9 (zig n) (by have := zig_lt hn; omega) (by omega) w
  unfold intB
  generalize wb (zig n) = B at *
  go_enter Tryd.func19, Tryd.ntmps19
  go_wp2_with (first
    | (go_at_call 33; (with_reducible refine (CP.out _).mono ?_); rintro e w1 ⟨rfl, rfl⟩)
    | (go_at_call 32; (with_reducible refine (CR.out _).mono ?_); rintro e w2 ⟨rfl, hb2⟩; have HB2 := Lib.hid hb2; clear hb2))
  go_ret
  exact ⟨rfl, HB2.out⟩
end Pen
end Go.Proofs.YtmaddebfoefckaaDoor
