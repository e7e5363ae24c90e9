/- Roles: which allow others, what two have both, which takes. -/
import Derived.Test.YtfmcggejifnhfaaDoorRolP
namespace Go.Proofs.YtfmcggejifnhfaaDoor
open Go.RowKit
namespace Rol
set_option maxHeartbeats 2000000 in
theorem has_any (a b : Int) (w : World) :
    Calls Tryd.prog 12 #[.int .i64 a, .int .i64 b] w fun e w' => e = .returned (.bool (hasP a b)) ∧ w = w' := by
  have I1 : Hid (∀ W, Calls Tryd.prog 19 #[.int .i64 a] W fun e w' => e = .returned (.bool (isP a)) ∧ W = w') := is_any a
  have I2 : Hid (∀ W, Calls Tryd.prog 19 #[.int .i64 b] W fun e w' => e = .returned (.bool (isP b)) ∧ W = w') := is_any b
  have HS : Hid (hasP a b = (isP a && isP b && hasN a.toNat b.toNat)) := rfl
  generalize hasP a b = V at *
  cases h1 : isP a
  · rw [h1] at I1 HS
    have HV : Hid (V = false) := HS.out
    go_enter Tryd.func12, Tryd.ntmps12
    go_wp2_with (go_at_call 19; ((first | (with_reducible refine (I1.out _).mono ?_) | (with_reducible refine (I2.out _).mono ?_)); rintro e w1 ⟨rfl, rfl⟩))
    go_ret
    exact ⟨by rw [HV.out]; rfl, rfl⟩
  · rw [h1] at I1 HS
    cases h2 : isP b
    · rw [h2] at I2 HS
      have HV : Hid (V = false) := HS.out
      go_enter Tryd.func12, Tryd.ntmps12
      go_wp2_with (go_at_call 19; ((first | (with_reducible refine (I1.out _).mono ?_) | (with_reducible refine (I2.out _).mono ?_)); rintro e w1 ⟨rfl, rfl⟩))
      go_ret
      exact ⟨by rw [HV.out]; rfl, rfl⟩
    · rw [h2] at I2 HS
      obtain ⟨m, hm, rfl⟩ := isP_yes h1
      obtain ⟨n, hn, rfl⟩ := isP_yes h2
      have HV : Hid (V = (m.testBit 0 || sub n m)) := HS.out
      have L1 : Hid (∀ W, Calls Tryd.prog 26 #[.int .i64 (m : Int)] W fun e w' => e = .returned (.bool (m.testBit 0)) ∧ W = w') := leads_any m hm
      have L2 := L1
      have HN := Lib.hid (andNot_sub n m hn hm)
      clear h1 h2 HS hm hn
      cases h3 : m.testBit 0
      · rw [h3] at L1 L2 HV
        go_enter Tryd.func12, Tryd.ntmps12
        go_wp2_with (first | (go_at_call 19; ((first | (with_reducible refine (I1.out _).mono ?_) | (with_reducible refine (I2.out _).mono ?_)); rintro e w1 ⟨rfl, rfl⟩)) | (go_at_call 26; ((first | (with_reducible refine (L1.out _).mono ?_) | (with_reducible refine (L2.out _).mono ?_)); rintro e w2 ⟨rfl, rfl⟩)))
        go_ret
        exact ⟨by rw [HV.out, ← HN.out]; rfl, rfl⟩
      · rw [h3] at L1 L2 HV
        go_enter Tryd.func12, Tryd.ntmps12
        go_wp2_with (first | (go_at_call 19; ((first | (with_reducible refine (I1.out _).mono ?_) | (with_reducible refine (I2.out _).mono ?_)); rintro e w1 ⟨rfl, rfl⟩)) | (go_at_call 26; ((first | (with_reducible refine (L1.out _).mono ?_) | (with_reducible refine (L2.out _).mono ?_)); rintro e w2 ⟨rfl, rfl⟩)))
        go_ret
        exact ⟨by rw [HV.out]; rfl, rfl⟩
set_option maxHeartbeats 2000000 in
theorem both_any (a b : Int) (w : World) :
    Calls Tryd.prog 11 #[.int .i64 a, .int .i64 b] w fun e w' => e = .returned (.tuple #[.int .i64 (bothV a b).1, .int .i64 (bothV a b).2]) ∧ w = w' := by
  have I1 : Hid (∀ W, Calls Tryd.prog 19 #[.int .i64 a] W fun e w' => e = .returned (.bool (isP a)) ∧ W = w') := is_any a
  have I2 : Hid (∀ W, Calls Tryd.prog 19 #[.int .i64 b] W fun e w' => e = .returned (.bool (isP b)) ∧ W = w') := is_any b
  have HS : Hid (bothV a b = if isP a && isP b then (((bothN a.toNat b.toNat : Nat) : Int), 0) else (0, 1)) := rfl
  generalize bothV a b = V at *
  cases h1 : isP a
  · rw [h1] at I1 HS
    have HV : Hid (V = (0, 1)) := HS.out
    go_enter Tryd.func11, Tryd.ntmps11
    go_wp2_with (go_at_call 19; ((first | (with_reducible refine (I1.out _).mono ?_) | (with_reducible refine (I2.out _).mono ?_)); rintro e w1 ⟨rfl, rfl⟩))
    go_ret2
    exact ⟨by rw [HV.out]; rfl, rfl⟩
  rw [h1] at I1 HS
  cases h2 : isP b
  · rw [h2] at I2 HS
    have HV : Hid (V = (0, 1)) := HS.out
    go_enter Tryd.func11, Tryd.ntmps11
    go_wp2_with (go_at_call 19; ((first | (with_reducible refine (I1.out _).mono ?_) | (with_reducible refine (I2.out _).mono ?_)); rintro e w1 ⟨rfl, rfl⟩))
    go_ret2
    exact ⟨by rw [HV.out]; rfl, rfl⟩
  rw [h2] at I2 HS
  obtain ⟨m, hm, rfl⟩ := isP_yes h1
  obtain ⟨n, hn, rfl⟩ := isP_yes h2
  have HV : Hid (V = (((bothN m n : Nat) : Int), 0)) := HS.out
  have L1 : Hid (∀ W, Calls Tryd.prog 26 #[.int .i64 (m : Int)] W fun e w' => e = .returned (.bool (m.testBit 0)) ∧ W = w') := leads_any m hm
  have L2 : Hid (∀ W, Calls Tryd.prog 26 #[.int .i64 (n : Int)] W fun e w' => e = .returned (.bool (n.testBit 0)) ∧ W = w') := leads_any n hn
  have HN := Lib.hid (and_nat m n hm hn)
  have HB : Hid (bothN m n = if m.testBit 0 then (if n.testBit 0 then 255 else n) else if n.testBit 0 then m else m &&& n) := rfl
  clear h1 h2 HS hm hn
  cases h3 : m.testBit 0 <;> cases h4 : n.testBit 0
  · rw [h3] at L1 HB
    rw [h4] at L2 HB
    have HB2 : Hid (bothN m n = m &&& n) := HB.out
    go_enter Tryd.func11, Tryd.ntmps11
    go_wp2_with (first | (go_at_call 19; ((first | (with_reducible refine (I1.out _).mono ?_) | (with_reducible refine (I2.out _).mono ?_)); rintro e w1 ⟨rfl, rfl⟩)) | (go_at_call 26; ((first | (with_reducible refine (L1.out _).mono ?_) | (with_reducible refine (L2.out _).mono ?_)); rintro e w2 ⟨rfl, rfl⟩)))
    go_ret2
    exact ⟨by rw [HV.out, HB2.out, ← HN.out]; rfl, rfl⟩
  · rw [h3] at L1 HB
    rw [h4] at L2 HB
    have HB2 : Hid (bothN m n = m) := HB.out
    go_enter Tryd.func11, Tryd.ntmps11
    go_wp2_with (first | (go_at_call 19; ((first | (with_reducible refine (I1.out _).mono ?_) | (with_reducible refine (I2.out _).mono ?_)); rintro e w1 ⟨rfl, rfl⟩)) | (go_at_call 26; ((first | (with_reducible refine (L1.out _).mono ?_) | (with_reducible refine (L2.out _).mono ?_)); rintro e w2 ⟨rfl, rfl⟩)))
    go_ret2
    exact ⟨by rw [HV.out, HB2.out]; rfl, rfl⟩
  · rw [h3] at L1 HB
    rw [h4] at L2 HB
    have HB2 : Hid (bothN m n = n) := HB.out
    go_enter Tryd.func11, Tryd.ntmps11
    go_wp2_with (first | (go_at_call 19; ((first | (with_reducible refine (I1.out _).mono ?_) | (with_reducible refine (I2.out _).mono ?_)); rintro e w1 ⟨rfl, rfl⟩)) | (go_at_call 26; ((first | (with_reducible refine (L1.out _).mono ?_) | (with_reducible refine (L2.out _).mono ?_)); rintro e w2 ⟨rfl, rfl⟩)))
    go_ret2
    exact ⟨by rw [HV.out, HB2.out]; rfl, rfl⟩
  · rw [h3] at L1 HB
    rw [h4] at L2 HB
    have HB2 : Hid (bothN m n = 255) := HB.out
    go_enter Tryd.func11, Tryd.ntmps11
    go_wp2_with (first | (go_at_call 19; ((first | (with_reducible refine (I1.out _).mono ?_) | (with_reducible refine (I2.out _).mono ?_)); rintro e w1 ⟨rfl, rfl⟩)) | (go_at_call 26; ((first | (with_reducible refine (L1.out _).mono ?_) | (with_reducible refine (L2.out _).mono ?_)); rintro e w2 ⟨rfl, rfl⟩)))
    go_ret2
    exact ⟨by rw [HV.out, HB2.out]; rfl, rfl⟩
set_option maxHeartbeats 2000000 in
theorem take_any (n : Int) (w : World) :
    Calls Tryd.prog 14 #[.int .i64 n] w fun e w' => e = .returned (.tuple #[.int .i64 (takeV n).1, .int .i64 (takeV n).2]) ∧ w = w' := by
  have HS : Hid (takeV n = if decide (n < 1) || decide (4 < n) then (0, 1) else (2 ^ (3 + n.toNat), 0)) := rfl
  by_cases h1 : n < 1
  · have d1 := decide_eq_true h1
    have HV : Hid (takeV n = (0, 1)) := by show takeV n = _; rw [HS.out, d1]; rfl
    generalize takeV n = V at *
    clear h1
    go_enter Tryd.func14, Tryd.ntmps14
    go_wp2
    go_ret2
    exact ⟨by rw [HV.out]; rfl, rfl⟩
  · have d1 := decide_eq_false h1
    by_cases h2 : 4 < n
    · have d2 := decide_eq_true h2
      have HV : Hid (takeV n = (0, 1)) := by show takeV n = _; rw [HS.out, d1, d2]; rfl
      generalize takeV n = V at *
      clear h1 h2
      go_enter Tryd.func14, Tryd.ntmps14
      go_wp2
      go_ret2
      exact ⟨by rw [HV.out]; rfl, rfl⟩
    · have h4 : n = 1 ∨ n = 2 ∨ n = 3 ∨ n = 4 := by omega
      clear d1 h1 h2
      rcases h4 with rfl | rfl | rfl | rfl
      · go_enter Tryd.func14, Tryd.ntmps14
        go_wp2
        go_ret2
        exact ⟨rfl, rfl⟩
      · go_enter Tryd.func14, Tryd.ntmps14
        go_wp2
        go_ret2
        exact ⟨rfl, rfl⟩
      · go_enter Tryd.func14, Tryd.ntmps14
        go_wp2
        go_ret2
        exact ⟨rfl, rfl⟩
      · go_enter Tryd.func14, Tryd.ntmps14
        go_wp2
        go_ret2
        exact ⟨rfl, rfl⟩
set_option maxHeartbeats 2000000 in
theorem refTake_any (n : Int) (w : World) :
    Calls Tryd.prog 15 #[.int .i64 n] w fun e w' => e = .returned (.tuple #[.int .i64 (takeV n).1, .int .i64 (takeV n).2]) ∧ w = w' := by
  have HS : Hid (takeV n = if decide (n < 1) || decide (4 < n) then (0, 1) else (2 ^ (3 + n.toNat), 0)) := rfl
  by_cases h1 : n < 1
  · have d1 := decide_eq_true h1
    have HV : Hid (takeV n = (0, 1)) := by show takeV n = _; rw [HS.out, d1]; rfl
    generalize takeV n = V at *
    clear h1
    go_enter Tryd.func15, Tryd.ntmps15
    go_wp2
    go_ret2
    exact ⟨by rw [HV.out]; rfl, rfl⟩
  · have d1 := decide_eq_false h1
    by_cases h2 : 4 < n
    · have d2 := decide_eq_true h2
      have HV : Hid (takeV n = (0, 1)) := by show takeV n = _; rw [HS.out, d1, d2]; rfl
      generalize takeV n = V at *
      clear h1 h2
      go_enter Tryd.func15, Tryd.ntmps15
      go_wp2
      go_ret2
      exact ⟨by rw [HV.out]; rfl, rfl⟩
    · have h4 : n = 1 ∨ n = 2 ∨ n = 3 ∨ n = 4 := by omega
      clear d1 h1 h2
      rcases h4 with rfl | rfl | rfl | rfl
      · go_enter Tryd.func15, Tryd.ntmps15
        go_wp2
        go_ret2
        exact ⟨rfl, rfl⟩
      · go_enter Tryd.func15, Tryd.ntmps15
        go_wp2
        go_ret2
        exact ⟨rfl, rfl⟩
      · go_enter Tryd.func15, Tryd.ntmps15
        go_wp2
        go_ret2
        exact ⟨rfl, rfl⟩
      · go_enter Tryd.func15, Tryd.ntmps15
        go_wp2
        go_ret2
        exact ⟨rfl, rfl⟩
end Rol
end Go.Proofs.YtfmcggejifnhfaaDoor
