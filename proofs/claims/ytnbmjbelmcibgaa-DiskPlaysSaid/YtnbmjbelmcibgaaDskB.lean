/- The low bits of a number of 64 bits, whatever its sign. -/
import Derived.Laws.BitsLemmas
import Derived.RowKit
set_option linter.unusedSimpArgs false
namespace Go.Proofs.Ytnbmjbelmcibgaa
open Go.RowKit
namespace Dsk
theorem mask_any (x : Int) (i : Nat) (hi : i ≤ 62) : bits .and .i64 x (((2 ^ i - 1 : Nat)) : Int) = x % ((2 ^ i : Nat) : Int) := by
  have hp : (2 : Nat) ^ i ≤ 2 ^ 62 := Nat.pow_le_pow_right (by decide) hi
  have h1 : (0 : Nat) < 2 ^ i := Nat.two_pow_pos i
  have e64 : (2 : Nat) ^ 64 = 18446744073709551616 := by decide
  have e62 : (2 : Nat) ^ 62 = 4611686018427387904 := by decide
  have hb : (2 ^ i - 1) % 18446744073709551616 = 2 ^ i - 1 := Nat.mod_eq_of_lt (by omega)
  show IntKind.i64.wrap (((BitVec.ofInt 64 x &&& BitVec.ofInt 64 ((2 ^ i - 1 : Nat) : Int) : BitVec 64).toNat : Nat) : Int) = _
  rw [BitVec.toNat_and, BitVec.ofInt_natCast, BitVec.toNat_ofNat, e64, hb]
  rw [Nat.and_two_pow_sub_one_eq_mod, IntKind.wrap_i64]
  rw [BitVec.toNat_ofInt]
  have hd : ((2 ^ i : Nat) : Int) ∣ ((2 ^ 64 : Nat) : Int) := Int.natCast_dvd_natCast.2 (Nat.pow_dvd_pow 2 (by omega))
  have e : (((x % ((2 ^ 64 : Nat) : Int)).toNat % 2 ^ i : Nat) : Int) = x % ((2 ^ i : Nat) : Int) := by
    rw [Int.natCast_emod, Int.toNat_of_nonneg (Int.emod_nonneg _ (by decide)), Int.emod_emod_of_dvd _ hd]
  rw [e]
  have h0 := Int.emod_nonneg x (b := ((2 ^ i : Nat) : Int)) (by omega)
  have h2 := Int.emod_lt_of_pos x (b := ((2 ^ i : Nat) : Int)) (by omega)
  generalize hz : x % ((2 ^ i : Nat) : Int) = z at *
  have : z < 4611686018427387904 := by omega
  omega
theorem mask_kept (x : Int) : bits .and .i64 x 4611686018427387903 = x % 4611686018427387904 := mask_any x 62 (by decide)
theorem mask_seven (x : Int) : bits .and .i64 x 7 = x % 8 := mask_any x 3 (by decide)
theorem mask_one (x : Int) : bits .and .i64 x 1 = x % 2 := mask_any x 1 (by decide)
end Dsk
end Go.Proofs.Ytnbmjbelmcibgaa
