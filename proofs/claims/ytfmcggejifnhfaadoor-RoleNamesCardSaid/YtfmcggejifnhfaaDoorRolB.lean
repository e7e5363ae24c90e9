/- The reference: what two have both, bit by bit. -/
import Derived.Test.YtfmcggejifnhfaaDoorRolR
namespace Go.Proofs.YtfmcggejifnhfaaDoor
open Go.RowKit
namespace Rol
/-- A number of bits. -/
def sumOf (f : Nat → Bool) : Nat → Nat
  | 0 => 0
  | k + 1 => sumOf f k + if f k then 2 ^ k else 0
theorem sumOf_mod (f : Nat → Bool) (x k : Nat) (h : ∀ j, j < k → f j = x.testBit j) : sumOf f k = x % 2 ^ k := by
  induction k with
  | zero => rw [Nat.pow_zero, Nat.mod_one]; rfl
  | succ k ih =>
    rw [sumOf, ih (fun j hj => h j (by omega)), Nat.mod_pow_succ, h k (by omega), Nat.testBit_eq_decide_div_mod_eq]
    rcases Nat.mod_two_eq_zero_or_one (x / 2 ^ k) with g | g <;> rw [g] <;> simp
theorem sumOf_lt (f : Nat → Bool) (k : Nat) : sumOf f k < 2 ^ k := by
  induction k with
  | zero => exact Nat.one_pos
  | succ k ih =>
    rw [sumOf, Nat.pow_succ]
    split <;> omega
def bothBit (m n k : Nat) : Bool := (m.testBit 0 || m.testBit k) && (n.testBit 0 || n.testBit k)
theorem sum_none (m n : Nat) (hm : m < 256) (h1 : m.testBit 0 = false) (h2 : n.testBit 0 = false) : sumOf (bothBit m n) 8 = m &&& n := by
  rw [sumOf_mod (bothBit m n) (m &&& n) 8 fun j _ => by unfold bothBit; rw [h1, h2, Nat.testBit_and]; rfl]
  exact Nat.mod_eq_of_lt (Nat.lt_of_le_of_lt Nat.and_le_left hm)
theorem sum_all (m n : Nat) (h1 : m.testBit 0 = true) (h2 : n.testBit 0 = true) : sumOf (bothBit m n) 8 = 255 := by
  have : ∀ k, bothBit m n k = true := fun k => by unfold bothBit; rw [h1, h2]; rfl
  simp [sumOf, this]
theorem sub_pow (m k : Nat) (hk : k < 8) : sub (2 ^ k) m = m.testBit k := by
  rw [Bool.eq_iff_iff, sub_iff]
  constructor
  · intro h
    exact h k hk (by rw [Nat.testBit_two_pow_self])
  · intro h j _ hj
    rw [Nat.testBit_two_pow] at hj
    simp at hj
    subst hj
    exact h
theorem pow_lt (k : Nat) (hk : k < 8) : 2 ^ k < 256 := Nat.pow_lt_pow_right (m := k) (n := 8) (by omega) hk
theorem has_pow (m k : Nat) (hm : m < 256) (hk : k < 8) : hasP (m : Int) (((2 ^ k : Nat) : Int)) = (m.testBit 0 || m.testBit k) := by
  unfold hasP hasN
  rw [isP_nat m hm, isP_nat _ (pow_lt k hk), Int.toNat_natCast, Int.toNat_natCast, sub_pow m k hk]
  rfl
set_option maxHeartbeats 2000000 in
theorem refBoth_any (a b : Int) (w : World) :
    Calls Tryd.prog 13 #[.int .i64 a, .int .i64 b] w fun e w' => e = .returned (.tuple #[.int .i64 (bothV a b).1, .int .i64 (bothV a b).2]) ∧ w = w' := by
  have I1 : Hid (∀ W, Calls Tryd.prog 18 #[.int .i64 a] W fun e w' => e = .returned (.bool (isP a)) ∧ W = w') := may_any a
  have I2 : Hid (∀ W, Calls Tryd.prog 18 #[.int .i64 b] W fun e w' => e = .returned (.bool (isP b)) ∧ W = w') := may_any b
  have HS : Hid (bothV a b = if isP a && isP b then (((bothN a.toNat b.toNat : Nat) : Int), 0) else (0, 1)) := rfl
  generalize bothV a b = V at *
  cases h1 : isP a
  · rw [h1] at I1 HS
    have HV : Hid (V = (0, 1)) := HS.out
    go_enter Tryd.func13, Tryd.ntmps13
    go_wp2_with (go_at_call 18; ((first | (with_reducible refine (I1.out _).mono ?_) | (with_reducible refine (I2.out _).mono ?_)); rintro e w1 ⟨rfl, rfl⟩))
    go_ret2
    exact ⟨by rw [HV.out]; rfl, rfl⟩
  rw [h1] at I1 HS
  cases h2 : isP b
  · rw [h2] at I2 HS
    have HV : Hid (V = (0, 1)) := HS.out
    go_enter Tryd.func13, Tryd.ntmps13
    go_wp2_with (go_at_call 18; ((first | (with_reducible refine (I1.out _).mono ?_) | (with_reducible refine (I2.out _).mono ?_)); rintro e w1 ⟨rfl, rfl⟩))
    go_ret2
    exact ⟨by rw [HV.out]; rfl, rfl⟩
  rw [h2] at I2 HS
  obtain ⟨m, hm, rfl⟩ := isP_yes h1
  obtain ⟨n, hn, rfl⟩ := isP_yes h2
  have HV : Hid (V = (((bothN m n : Nat) : Int), 0)) := HS.out
  have HM : Hid (m < 256 ∧ n < 256) := ⟨hm, hn⟩
  have HB : Hid (bothN m n = if m.testBit 0 then (if n.testBit 0 then 255 else n) else if n.testBit 0 then m else m &&& n) := rfl
  clear h1 h2 HS hm hn
  go_enter Tryd.func13, Tryd.ntmps13
  go_wp2_with (go_at_call 18; ((first | (with_reducible refine (I1.out _).mono ?_) | (with_reducible refine (I2.out _).mono ?_)); rintro e w1 ⟨rfl, rfl⟩))
  go_loop [6, 7] (fun s i => ∃ k : Nat, k ≤ 8 ∧ i = .int .i64 k ∧ s = .int .i64 ((sumOf (bothBit m n) k : Nat) : Int)) (fun _ i => 8 - (intOf i).toNat)
  case atStart => exact ⟨0, by omega, rfl, rfl⟩
  case round =>
    obtain ⟨k, hk, rfl, rfl⟩ := hrel
    by_cases hlt : k < 8
    · have dl : decide ((k : Int) < 8) = true := decide_eq_true (by omega)
      have hp := pow_lt k hlt
      obtain ⟨P, qP, zP⟩ : ∃ P : Int, wrap64 (2 ^ k) = P ∧ P = ((2 ^ k : Nat) : Int) := ⟨_, by
        have e : (2 : Int) ^ k = ((2 ^ k : Nat) : Int) := by rw [Int.natCast_pow]; rfl
        rw [e]; clear e; generalize 2 ^ k = Y at *; unfold wrap64; omega, rfl⟩
      have H1 : Hid (∀ W, Calls Tryd.prog 16 #[.int .i64 (m : Int), .int .i64 P] W fun e w' => e = .returned (.bool (m.testBit 0 || m.testBit k)) ∧ W = w') := fun W => by
        have := refHas_any (m : Int) P W
        rwa [zP, has_pow m k HM.out.1 hlt, ← zP] at this
      have H2 : Hid (∀ W, Calls Tryd.prog 16 #[.int .i64 (n : Int), .int .i64 P] W fun e w' => e = .returned (.bool (n.testBit 0 || n.testBit k)) ∧ W = w') := fun W => by
        have := refHas_any (n : Int) P W
        rwa [zP, has_pow n k HM.out.2 hlt, ← zP] at this
      have HT : Hid (sumOf (bothBit m n) (k + 1) = sumOf (bothBit m n) k + if (m.testBit 0 || m.testBit k) && (n.testBit 0 || n.testBit k) then 2 ^ k else 0) := rfl
      have hs := sumOf_lt (bothBit m n) k
      obtain ⟨Z, qZ, zZ⟩ : ∃ Z : Int, wrap64 (((sumOf (bothBit m n) k : Nat) : Int) + P) = Z ∧ Z = ((sumOf (bothBit m n) k + 2 ^ k : Nat) : Int) := ⟨_, by rw [zP]; generalize 2 ^ k = Y at *; generalize sumOf (bothBit m n) k = X at *; unfold wrap64; omega, rfl⟩
      have zZ := Lib.hid zZ
      generalize (m.testBit 0 || m.testBit k) = X at *
      generalize (n.testBit 0 || n.testBit k) = Y at *
      clear hp hs zP
      cases X
      · have HT2 : Hid (sumOf (bothBit m n) (k + 1) = sumOf (bothBit m n) k) := HT.out
        go_wp2_with (go_at_call 16; ((first | (with_reducible refine (H1.out _).mono ?_) | (with_reducible refine (H2.out _).mono ?_)); rintro e w2 ⟨rfl, rfl⟩))
        go_round
        case rel => exact ⟨k + 1, by omega, by go_num, by rw [HT2.out]⟩
        case measure => simp [intOf]; omega
      · cases Y
        · have HT2 : Hid (sumOf (bothBit m n) (k + 1) = sumOf (bothBit m n) k) := HT.out
          go_wp2_with (go_at_call 16; ((first | (with_reducible refine (H1.out _).mono ?_) | (with_reducible refine (H2.out _).mono ?_)); rintro e w2 ⟨rfl, rfl⟩))
          go_round
          case rel => exact ⟨k + 1, by omega, by go_num, by rw [HT2.out]⟩
          case measure => simp [intOf]; omega
        · have HT2 : Hid (sumOf (bothBit m n) (k + 1) = sumOf (bothBit m n) k + 2 ^ k) := HT.out
          go_wp2_with (go_at_call 16; ((first | (with_reducible refine (H1.out _).mono ?_) | (with_reducible refine (H2.out _).mono ?_)); rintro e w2 ⟨rfl, rfl⟩))
          go_round
          case rel => exact ⟨k + 1, by omega, by go_num, by rw [HT2.out, ← zZ.out, ← qZ]⟩
          case measure => simp [intOf]; omega
    · have hke : k = 8 := by omega
      subst hke
      have B1 : Hid (∀ W, Calls Tryd.prog 23 #[.int .i64 (m : Int), .int .i64 0] W fun e w' => e = .returned (.bool (m.testBit 0)) ∧ W = w') := bit_zero m HM.out.1
      have B2 : Hid (∀ W, Calls Tryd.prog 23 #[.int .i64 (n : Int), .int .i64 0] W fun e w' => e = .returned (.bool (n.testBit 0)) ∧ W = w') := bit_zero n HM.out.2
      have S1 : Hid (m.testBit 0 = false → n.testBit 0 = false → sumOf (bothBit m n) 8 = m &&& n) := sum_none m n HM.out.1
      have S2 : Hid (m.testBit 0 = true → n.testBit 0 = true → sumOf (bothBit m n) 8 = 255) := sum_all m n
      generalize m.testBit 0 = X at *
      generalize n.testBit 0 = Y at *
      generalize sumOf (bothBit m n) 8 = S at *
      cases X <;> cases Y
      · have HE := Lib.hid (S1.out rfl rfl)
        have HB2 : Hid (bothN m n = m &&& n) := HB.out
        go_wp2_with (go_at_call 23; ((first | (with_reducible refine (B1.out _).mono ?_) | (with_reducible refine (B2.out _).mono ?_)); rintro e w2 ⟨rfl, rfl⟩))
        go_ret2
        exact ⟨by rw [HV.out, HB2.out, ← HE.out]; rfl, rfl⟩
      · have HB2 : Hid (bothN m n = m) := HB.out
        go_wp2_with (go_at_call 23; ((first | (with_reducible refine (B1.out _).mono ?_) | (with_reducible refine (B2.out _).mono ?_)); rintro e w2 ⟨rfl, rfl⟩))
        go_ret2
        exact ⟨by rw [HV.out, HB2.out]; rfl, rfl⟩
      · have HB2 : Hid (bothN m n = n) := HB.out
        go_wp2_with (go_at_call 23; ((first | (with_reducible refine (B1.out _).mono ?_) | (with_reducible refine (B2.out _).mono ?_)); rintro e w2 ⟨rfl, rfl⟩))
        go_ret2
        exact ⟨by rw [HV.out, HB2.out]; rfl, rfl⟩
      · have HE := Lib.hid (S2.out rfl rfl)
        have HB2 : Hid (bothN m n = 255) := HB.out
        go_wp2_with (go_at_call 23; ((first | (with_reducible refine (B1.out _).mono ?_) | (with_reducible refine (B2.out _).mono ?_)); rintro e w2 ⟨rfl, rfl⟩))
        go_ret2
        exact ⟨by rw [HV.out, HB2.out, ← HE.out]; rfl, rfl⟩
end Rol
end Go.Proofs.YtfmcggejifnhfaaDoor
