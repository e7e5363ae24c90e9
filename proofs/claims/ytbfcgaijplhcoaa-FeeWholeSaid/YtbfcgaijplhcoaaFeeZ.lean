/- What is left, bit by bit. -/
import Derived.Test.YtbfcgaijplhcoaaFeeX
namespace Go.Proofs.Ytbfcgaijplhcoaa
open Go.RowKit
namespace Fee
theorem left_step (n w s k : Nat) : (n / 2 ^ k % 2 = 0 → n / 2 ^ k * w % s = 2 * (n / 2 ^ (k + 1) * w % s) % s) ∧ (n / 2 ^ k % 2 = 1 → n / 2 ^ k * w % s = (2 * (n / 2 ^ (k + 1) * w % s) % s + w % s) % s) := by
  have hh := half n k
  constructor
  · intro h
    rw [hh, h, Nat.add_zero, Nat.mul_assoc, Nat.mul_mod_mod]
  · intro h
    rw [hh, h, Nat.add_mul, Nat.one_mul, Nat.mul_assoc, Nat.mul_mod_mod, ← Nat.add_mod]
set_option maxHeartbeats 4000000 in
theorem left_any (n x s : Nat) (hn : n ≤ 1152921504606846976) (hx : x ≤ 1152921504606846976) (hs0 : 1 ≤ s) (hs : s ≤ 1152921504606846976) (w : World) :
    Calls Try.prog 26 #[.int .i64 (n : Int), .int .i64 (x : Int), .int .i64 (s : Int)] w fun e w' => e = .returned (.int .i64 ((n * x % s : Nat) : Int)) ∧ w = w' := by
  have HA : Hid (n ≤ 1152921504606846976 ∧ x ≤ 1152921504606846976 ∧ 1 ≤ s ∧ s ≤ 1152921504606846976) := ⟨hn, hx, hs0, hs⟩
  have ns : ¬ (s : Int) = 0 := by omega
  obtain ⟨X, hX⟩ : ∃ A : Int, Hid ((x : Int) = A) := ⟨_, rfl⟩
  obtain ⟨S, hS⟩ : ∃ A : Int, Hid ((s : Int) = A) := ⟨_, rfl⟩
  rw [hS.out] at ns ⊢
  rw [hX.out]
  obtain ⟨XM, qX, zX⟩ : ∃ P : Int, X.tmod S = P ∧ P = ((x % s : Nat) : Int) := ⟨_, by rw [← hX.out, ← hS.out, ← Int.ofNat_tmod], rfl⟩
  have ZX := Lib.hid zX
  obtain ⟨Z, hZ⟩ : ∃ Z : Int, Hid (((n * x % s : Nat) : Int) = Z) := ⟨_, rfl⟩
  rw [hZ.out]
  clear hn hx hs0 hs zX
  go_enter Try.func26, Try.ntmps26
  go_wp2
  go_loop [7, 8] (fun r i => ∃ (z : Int) (j : Nat) (R : Int), i = .int .i64 z ∧ Hid (z = (j : Int) - 1 ∧ j ≤ 61) ∧ r = .int .i64 R ∧ Hid (R = ((n / 2 ^ j * x % s : Nat) : Int))) (fun _ i => (intOf i + 1).toNat)
  case atStart =>
    have hb0 : n / 2 ^ 61 = 0 := Nat.div_eq_of_lt (by have := HA.out; omega)
    exact ⟨60, 61, 0, rfl, ⟨rfl, Nat.le_refl _⟩, rfl, by show (0 : Int) = _; rw [hb0]; simp⟩
  case round =>
    obtain ⟨z, j, R, rfl, HJ, rfl, HR⟩ := hrel
    cases j with
    | zero =>
      obtain rfl : z = -1 := by have := HJ.out.1; simpa using this
      have e1 : n / 2 ^ 0 * x = n * x := by simp
      rw [e1] at HR
      go_wp2
      go_ret
      exact ⟨by rw [← hZ.out, ← HR.out]; rfl, rfl⟩
    | succ k =>
      obtain rfl : z = (k : Int) := by have := HJ.out.1; omega
      have dz : decide ((0 : Int) ≤ (k : Int)) = true := decide_eq_true (by omega)
      have QZ : Hid (wrap64 ((k : Int) - 1) = (k : Int) - 1) := by show _ = _; have := HJ.out.2; unfold wrap64; omega
      have hbit : (bits .and .i64 ((n : Int) / 2 ^ min k 64) 1 == 1) = decide (n / 2 ^ k % 2 = 1) := by rw [Nat.min_eq_left (show k ≤ 64 by have := HJ.out.2; omega)]; exact bit_of n k
      have ST := Lib.hid (left_step n x s k)
      have hR := HR.out
      have hl := Nat.mod_lt (n / 2 ^ (k + 1) * x) HA.out.2.2.1
      have hA := HA.out
      generalize n / 2 ^ (k + 1) * x % s = r0 at *
      obtain ⟨R1, m1, z1⟩ : ∃ P, wrap64 (2 * R) = P ∧ P = ((2 * r0 : Nat) : Int) := ⟨_, by unfold wrap64; omega, rfl⟩
      obtain ⟨R2, m2, z2⟩ : ∃ P, R1.tmod S = P ∧ P = ((2 * r0 % s : Nat) : Int) := ⟨_, by rw [z1, ← hS.out, ← Int.ofNat_tmod], rfl⟩
      have hl2 := Nat.mod_lt (2 * r0) hA.2.2.1
      cases hbt : decide (n / 2 ^ k % 2 = 1)
      · have hb0 : n / 2 ^ k % 2 = 0 := by have := of_decide_eq_false hbt; omega
        rw [hbt] at hbit
        have RN : Hid (R2 = ((n / 2 ^ k * x % s : Nat) : Int)) := by show R2 = _; rw [ST.out.1 hb0]; exact z2
        clear hbt hb0 z1 z2 hR hl hA hl2
        go_wp2
        go_round
        case rel => exact ⟨(k : Int) - 1, k, R2, by rw [QZ.out], ⟨rfl, by have := HJ.out.2; omega⟩, rfl, RN⟩
        case measure =>
          simp only [intOf]
          rw [QZ.out]
          omega
      · have hb1 : n / 2 ^ k % 2 = 1 := of_decide_eq_true hbt
        rw [hbt] at hbit
        have hxm := Nat.mod_lt x hA.2.2.1
        have hzx := ZX.out
        have hST := ST.out.2 hb1
        generalize x % s = xm at *
        generalize 2 * r0 % s = r2 at *
        obtain ⟨R3, m3, z3⟩ : ∃ P, wrap64 (R2 + XM) = P ∧ P = ((r2 + xm : Nat) : Int) := ⟨_, by unfold wrap64; omega, rfl⟩
        obtain ⟨R4, m4, z4⟩ : ∃ P, R3.tmod S = P ∧ P = (((r2 + xm) % s : Nat) : Int) := ⟨_, by rw [z3, ← hS.out, ← Int.ofNat_tmod], rfl⟩
        have RN : Hid (R4 = ((n / 2 ^ k * x % s : Nat) : Int)) := by show R4 = _; rw [hST]; exact z4
        clear hbt hb1 z1 z2 z3 z4 hR hl hA hl2 hxm hzx hST
        go_wp2
        go_round
        case rel => exact ⟨(k : Int) - 1, k, R4, by rw [QZ.out], ⟨rfl, by have := HJ.out.2; omega⟩, rfl, RN⟩
        case measure =>
          simp only [intOf]
          rw [QZ.out]
          omega
end Fee
end Go.Proofs.Ytbfcgaijplhcoaa
