/- The reference: which roles allow others, bit by bit. -/
import Derived.Test.YtfmcggejifnhfaaDoorRolQ
namespace Go.Proofs.YtfmcggejifnhfaaDoor
open Go.RowKit
namespace Rol
/-- The first k bits that one says another one says, or that one leads. -/
def hasTo (m n : Nat) : Nat → Bool
  | 0 => true
  | k + 1 => hasTo m n k && (!(n.testBit k && !m.testBit k && !m.testBit 0))
theorem hasTo_iff (m n k : Nat) : hasTo m n k = true ↔ ∀ j, j < k → n.testBit j = true → m.testBit j = true ∨ m.testBit 0 = true := by
  induction k with
  | zero => simp [hasTo]
  | succ k ih =>
    rw [hasTo, Bool.and_eq_true, ih]
    constructor
    · rintro ⟨h1, h2⟩ j hj hn
      by_cases e : j = k
      · subst e
        rw [hn] at h2
        cases h3 : m.testBit j
        · cases h4 : m.testBit 0
          · rw [h3, h4] at h2; exact absurd h2 (by decide)
          · exact .inr rfl
        · exact .inl rfl
      · exact h1 j (by omega) hn
    · intro h
      refine ⟨fun j hj => h j (by omega), ?_⟩
      cases hn : n.testBit k
      · rfl
      · rcases h k (by omega) hn with h3 | h3 <;> rw [h3] <;> simp
theorem hasTo_8 (m n : Nat) : hasTo m n 8 = hasN m n := by
  rw [Bool.eq_iff_iff, hasTo_iff]
  unfold hasN
  rw [Bool.or_eq_true, sub_iff]
  constructor
  · intro h
    cases h0 : m.testBit 0
    · exact .inr fun k hk hn => (h k hk hn).resolve_right (by rw [h0]; decide)
    · exact .inl rfl
  · rintro (h | h) j hj hn
    · exact .inr h
    · exact .inl (h j hj hn)
theorem hasTo_no (m n k j : Nat) (h : (n.testBit k && !m.testBit k && !m.testBit 0) = true) (hj : k < j) : hasTo m n j = false := by
  induction j with
  | zero => omega
  | succ j ih =>
    rw [hasTo]
    by_cases e : k = j
    · subst e; rw [h]; simp
    · rw [ih (by omega)]; rfl
set_option maxHeartbeats 2000000 in
theorem refHas_any (a b : Int) (w : World) :
    Calls Tryd.prog 16 #[.int .i64 a, .int .i64 b] w fun e w' => e = .returned (.bool (hasP a b)) ∧ w = w' := by
  have I1 : Hid (∀ W, Calls Tryd.prog 18 #[.int .i64 a] W fun e w' => e = .returned (.bool (isP a)) ∧ W = w') := may_any a
  have I2 : Hid (∀ W, Calls Tryd.prog 18 #[.int .i64 b] W fun e w' => e = .returned (.bool (isP b)) ∧ W = w') := may_any b
  have HS : Hid (hasP a b = (isP a && isP b && hasN a.toNat b.toNat)) := rfl
  generalize hasP a b = V at *
  cases h1 : isP a
  · rw [h1] at I1 HS
    have HV : Hid (V = false) := HS.out
    go_enter Tryd.func16, Tryd.ntmps16
    go_wp2_with (go_at_call 18; ((first | (with_reducible refine (I1.out _).mono ?_) | (with_reducible refine (I2.out _).mono ?_)); rintro e w1 ⟨rfl, rfl⟩))
    go_ret
    exact ⟨by rw [HV.out]; rfl, rfl⟩
  rw [h1] at I1 HS
  cases h2 : isP b
  · rw [h2] at I2 HS
    have HV : Hid (V = false) := HS.out
    go_enter Tryd.func16, Tryd.ntmps16
    go_wp2_with (go_at_call 18; ((first | (with_reducible refine (I1.out _).mono ?_) | (with_reducible refine (I2.out _).mono ?_)); rintro e w1 ⟨rfl, rfl⟩))
    go_ret
    exact ⟨by rw [HV.out]; rfl, rfl⟩
  rw [h2] at I2 HS
  obtain ⟨m, hm, rfl⟩ := isP_yes h1
  obtain ⟨n, hn, rfl⟩ := isP_yes h2
  have HV : Hid (V = hasN m n) := HS.out
  have HM : Hid (m < 256 ∧ n < 256) := ⟨hm, hn⟩
  clear h1 h2 HS hm hn
  go_enter Tryd.func16, Tryd.ntmps16
  go_wp2_with (go_at_call 18; ((first | (with_reducible refine (I1.out _).mono ?_) | (with_reducible refine (I2.out _).mono ?_)); rintro e w1 ⟨rfl, rfl⟩))
  go_loop [5] (fun i => ∃ k : Nat, k ≤ 8 ∧ i = .int .i64 k ∧ Hid (hasTo m n k = true)) (fun i => 8 - (intOf i).toNat)
  case atStart => exact ⟨0, by omega, rfl, rfl⟩
  case round =>
    obtain ⟨k, hk, rfl, HT⟩ := hrel
    by_cases hlt : k < 8
    · have dl : decide ((k : Int) < 8) = true := decide_eq_true (by omega)
      have B1 : Hid (∀ W, Calls Tryd.prog 23 #[.int .i64 (n : Int), .int .i64 (k : Int)] W fun e w' => e = .returned (.bool (n.testBit k)) ∧ W = w') := bit_any n k HM.out.2 hlt
      have B2 : Hid (∀ W, Calls Tryd.prog 23 #[.int .i64 (m : Int), .int .i64 (k : Int)] W fun e w' => e = .returned (.bool (m.testBit k)) ∧ W = w') := bit_any m k HM.out.1 hlt
      have B0 : Hid (∀ W, Calls Tryd.prog 23 #[.int .i64 (m : Int), .int .i64 0] W fun e w' => e = .returned (.bool (m.testBit 0)) ∧ W = w') := bit_zero m HM.out.1
      have HN : Hid ((n.testBit k && !m.testBit k && !m.testBit 0) = true → hasN m n = false) := fun h => by rw [← hasTo_8]; exact hasTo_no m n k 8 h hlt
      have HY : Hid ((n.testBit k && !m.testBit k && !m.testBit 0) = false → hasTo m n (k + 1) = true) := fun h => by rw [hasTo, HT.out, h]; rfl
      generalize n.testBit k = X at *
      generalize m.testBit k = Y at *
      generalize m.testBit 0 = Z at *
      cases X
      · replace HY := Lib.hid (HY.out rfl)
        go_wp2_with (go_at_call 23; ((first | (with_reducible refine (B1.out _).mono ?_) | (with_reducible refine (B2.out _).mono ?_) | (with_reducible refine (B0.out _).mono ?_)); rintro e w2 ⟨rfl, rfl⟩))
        go_round
        case rel => exact ⟨k + 1, by omega, by go_num, HY⟩
        case measure => simp [intOf]; omega
      · cases Y
        · cases Z
          · replace HN := Lib.hid (HN.out rfl)
            go_wp2_with (go_at_call 23; ((first | (with_reducible refine (B1.out _).mono ?_) | (with_reducible refine (B2.out _).mono ?_) | (with_reducible refine (B0.out _).mono ?_)); rintro e w2 ⟨rfl, rfl⟩))
            go_ret
            exact ⟨by rw [HV.out, HN.out]; rfl, rfl⟩
          · replace HY := Lib.hid (HY.out rfl)
            go_wp2_with (go_at_call 23; ((first | (with_reducible refine (B1.out _).mono ?_) | (with_reducible refine (B2.out _).mono ?_) | (with_reducible refine (B0.out _).mono ?_)); rintro e w2 ⟨rfl, rfl⟩))
            go_round
            case rel => exact ⟨k + 1, by omega, by go_num, HY⟩
            case measure => simp [intOf]; omega
        · replace HY := Lib.hid (HY.out (by cases Z <;> rfl))
          go_wp2_with (go_at_call 23; ((first | (with_reducible refine (B1.out _).mono ?_) | (with_reducible refine (B2.out _).mono ?_) | (with_reducible refine (B0.out _).mono ?_)); rintro e w2 ⟨rfl, rfl⟩))
          go_round
          case rel => exact ⟨k + 1, by omega, by go_num, HY⟩
          case measure => simp [intOf]; omega
    · have hke : k = 8 := by omega
      subst hke
      have HV2 : Hid (V = true) := by show V = true; rw [HV.out, ← hasTo_8]; exact HT.out
      go_wp2
      go_ret
      exact ⟨by rw [HV2.out]; rfl, rfl⟩
end Rol
end Go.Proofs.YtfmcggejifnhfaaDoor
