/- Decimal digits, part by part. -/
import Derived.Test.YtmaddebfoefckaaDoorRepT
set_option linter.unusedSimpArgs false
set_option linter.unusedVariables false
namespace Go.Proofs.YtmaddebfoefckaaDoor
open Go.RowKit
namespace Rep
open Pen (bs bs_append)
open Go.Lib (decDigits itoa)
theorem itoa_nat (u : Nat) : itoa (u : Int) = decDigits u := by
  unfold itoa
  rw [if_neg (by omega)]
  simp
theorem dig_one {u : Nat} (h : u < 10) : decDigits u = [UInt8.ofNat (48 + u)] := by rw [decDigits, dif_pos h]
theorem dig_more {u : Nat} (h : ¬ u < 10) : decDigits u = decDigits (u / 10) ++ decDigits (u % 10) := by
  rw [decDigits, dif_neg h, dig_one (u := u % 10) (by omega)]
theorem itoa_one {n : Int} (h : 0 ≤ n ∧ n ≤ 9) : itoa n = [UInt8.ofNat (48 + n.toNat)] := by
  obtain ⟨u, rfl⟩ : ∃ u : Nat, n = u := ⟨n.toNat, by omega⟩
  rw [itoa_nat, dig_one (by omega)]
  rfl
theorem itoa_more {n : Int} (h : 9 < n) : itoa n = itoa (Int.tdiv n 10) ++ itoa (Int.tmod n 10) := by
  obtain ⟨u, rfl⟩ : ∃ u : Nat, n = u := ⟨n.toNat, by omega⟩
  rw [show Int.tdiv (u : Int) 10 = ((u / 10 : Nat) : Int) from by rw [Int.tdiv_eq_ediv_of_nonneg (by omega)]; omega, show Int.tmod (u : Int) 10 = ((u % 10 : Nat) : Int) from by rw [Int.tmod_eq_emod_of_nonneg (by omega)]; omega, itoa_nat, itoa_nat, itoa_nat, dig_more (by omega)]
theorem itoa_neg' (u : Nat) (h : 1 ≤ u) : itoa (-(u : Int)) = 45 :: decDigits u := by
  unfold itoa
  rw [if_pos (by omega)]
  simp
theorem itoa_less {n : Int} (h : n < 0) : itoa n = [45] ++ itoa (-n) := by
  obtain ⟨u, rfl⟩ : ∃ u : Nat, n = -(u : Int) := ⟨n.natAbs, by omega⟩
  rw [itoa_neg' u (by omega), Int.neg_neg, itoa_nat]
  rfl
theorem itoa_down {n : Int} (h : n ≤ -10) : itoa n = itoa (Int.tdiv n 10) ++ itoa (-(Int.tmod n 10)) := by
  obtain ⟨u, rfl⟩ : ∃ u : Nat, n = -(u : Int) := ⟨n.natAbs, by omega⟩
  rw [Int.neg_tdiv, Int.neg_tmod, Int.neg_neg, show Int.tdiv (u : Int) 10 = ((u / 10 : Nat) : Int) from by rw [Int.tdiv_eq_ediv_of_nonneg (by omega)]; omega, show Int.tmod (u : Int) 10 = ((u % 10 : Nat) : Int) from by rw [Int.tmod_eq_emod_of_nonneg (by omega)]; omega, itoa_neg' u (by omega), itoa_neg' (u / 10) (by omega), itoa_nat, dig_more (by omega)]
  rfl
theorem tdiv_in {n : Int} (h : n ≤ -10) : Int.tdiv n 10 < 0 ∧ (Int.tdiv n 10).natAbs < n.natAbs := by
  obtain ⟨u, rfl⟩ : ∃ u : Nat, n = -(u : Int) := ⟨n.natAbs, by omega⟩
  rw [Int.neg_tdiv, show Int.tdiv (u : Int) 10 = ((u / 10 : Nat) : Int) from by rw [Int.tdiv_eq_ediv_of_nonneg (by omega)]; omega]
  omega
end Rep
end Go.Proofs.YtmaddebfoefckaaDoor
