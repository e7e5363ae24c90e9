/- The reference's Scale, bit by bit, where the part is no more than the whole. -/
import Derived.Test.YtbfcgaijplhcoaaChecked
import Derived.WalkKit
import Derived.ProofKit
import Derived.Below
import Derived.WalkLawsBesides
import Derived.Lib.Hide
namespace Go.Proofs.Ytbfcgaijplhcoaa
open Go.RowKit
namespace Fee
theorem i64_and1 (n : Int) : bits .and .i64 n 1 = n % 2 := by
  show IntKind.i64.wrap ((BitVec.ofInt 64 n &&& BitVec.ofInt 64 1).toNat : Int) = _
  rw [BitVec.toNat_and, show (BitVec.ofInt 64 1).toNat = 2 ^ 1 - 1 from rfl, Nat.and_two_pow_sub_one_eq_mod, BitVec.toNat_ofInt, IntKind.wrap_i64]
  have h : ((n % ((2 ^ 64 : Nat) : Int)).toNat : Int) = n % ((2 ^ 64 : Nat) : Int) := Int.toNat_of_nonneg (Int.emod_nonneg _ (by decide))
  have h2 : (((n % ((2 ^ 64 : Nat) : Int)).toNat % 2 ^ 1 : Nat) : Int) = n % 2 := by
    rw [Int.natCast_emod, h]
    omega
  rw [h2]
  omega
theorem bit_of (b k : Nat) : (bits .and .i64 ((b : Int) / 2 ^ k) 1 == 1) = decide (b / 2 ^ k % 2 = 1) := by
  have e : ((b : Int) / 2 ^ k) = ((b / 2 ^ k : Nat) : Int) := by rw [Int.natCast_ediv, Int.natCast_pow]; rfl
  rw [e, i64_and1]
  generalize b / 2 ^ k = x
  rcases Nat.mod_two_eq_zero_or_one x with h | h
  · rw [show ((x : Int) % 2) = 0 by omega, h]; rfl
  · rw [show ((x : Int) % 2) = 1 by omega, h]; rfl
theorem div_of {X n l c : Nat} (h : X = n * c + l) (hl : l < c) : X / c = n ∧ X % c = l := by
  subst h
  have hc : 0 < c := by omega
  constructor
  · rw [Nat.mul_comm, Nat.mul_add_div hc, Nat.div_eq_of_lt hl]; rfl
  · rw [Nat.mul_comm, Nat.mul_add_mod, Nat.mod_eq_of_lt hl]
/-- Twice. -/
theorem twice (X c : Nat) (hc : 0 < c) : (c ≤ 2 * (X % c) → 2 * X / c = 2 * (X / c) + 1 ∧ 2 * X % c = 2 * (X % c) - c) ∧ (¬ c ≤ 2 * (X % c) → 2 * X / c = 2 * (X / c) ∧ 2 * X % c = 2 * (X % c)) := by
  have e := Nat.div_add_mod X c
  have hl := Nat.mod_lt X hc
  generalize X / c = q at *
  generalize X % c = r at *
  subst e
  constructor
  · intro h
    exact div_of (by rw [Nat.add_mul, Nat.one_mul, Nat.mul_assoc, Nat.mul_comm q c, Nat.mul_add]; omega) (by omega)
  · intro h
    exact div_of (by rw [Nat.mul_assoc, Nat.mul_comm q c, Nat.mul_add]) (by omega)
/-- And once more. -/
theorem more (Y a c : Nat) (hc : 0 < c) : (c ≤ Y % c + a % c → (Y + a) / c = Y / c + a / c + 1 ∧ (Y + a) % c = Y % c + a % c - c) ∧ (¬ c ≤ Y % c + a % c → (Y + a) / c = Y / c + a / c ∧ (Y + a) % c = Y % c + a % c) := by
  have e := Nat.div_add_mod Y c
  have hl := Nat.mod_lt Y hc
  have e2 := Nat.div_add_mod a c
  have hl2 := Nat.mod_lt a hc
  generalize Y / c = q at *
  generalize Y % c = r at *
  generalize a / c = q2 at *
  generalize a % c = r2 at *
  subst e
  subst e2
  constructor
  · intro h
    exact div_of (by rw [Nat.add_mul, Nat.add_mul, Nat.one_mul, Nat.mul_comm q c, Nat.mul_comm q2 c]; omega) (by omega)
  · intro h
    exact div_of (by rw [Nat.add_mul, Nat.mul_comm q c, Nat.mul_comm q2 c]; omega) (by omega)
theorem half (b k : Nat) : b / 2 ^ k = 2 * (b / 2 ^ (k + 1)) + b / 2 ^ k % 2 := by
  rw [Nat.pow_succ, ← Nat.div_div_eq_div_mul]
  omega
end Fee
end Go.Proofs.Ytbfcgaijplhcoaa
