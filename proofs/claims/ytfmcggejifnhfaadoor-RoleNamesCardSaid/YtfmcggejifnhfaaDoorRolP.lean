/- Roles as bits: what the package and the reference answer of numbers. -/
import Derived.Test.YtfmcggejifnhfaaDoorChecked
import Derived.WalkKit
import Derived.ProofKit
import Derived.Below
import Derived.WalkLawsBesides
import Derived.Lib.Hide
namespace Go.Proofs.YtfmcggejifnhfaaDoor
open Go.RowKit
namespace Rol
theorem ofInt_toNat (n : Nat) (h : n < 256) : (BitVec.ofInt 64 (n : Int)).toNat = n := by
  rw [BitVec.toNat_ofInt]
  omega
theorem wrap_small (n : Nat) (h : n < 256) : IntKind.i64.wrap (n : Int) = n := by rw [IntKind.wrap_i64]; omega
theorem and_nat (m n : Nat) (hm : m < 256) (hn : n < 256) : bits .and .i64 (m : Int) (n : Int) = ((m &&& n : Nat) : Int) := by
  show IntKind.i64.wrap ((BitVec.ofInt 64 (m : Int) &&& BitVec.ofInt 64 (n : Int)).toNat : Int) = _
  rw [BitVec.toNat_and, ofInt_toNat m hm, ofInt_toNat n hn]
  exact wrap_small _ (Nat.lt_of_le_of_lt Nat.and_le_left hm)
theorem or_nat (m n : Nat) (hm : m < 256) (hn : n < 256) : bits .or .i64 (m : Int) (n : Int) = ((m ||| n : Nat) : Int) := by
  show IntKind.i64.wrap ((BitVec.ofInt 64 (m : Int) ||| BitVec.ofInt 64 (n : Int)).toNat : Int) = _
  rw [BitVec.toNat_or, ofInt_toNat m hm, ofInt_toNat n hn]
  exact wrap_small _ (Nat.or_lt_two_pow (n := 8) hm hn)
theorem bit_one (n k : Nat) (hn : n < 256) : (bits .and .i64 ((n : Int) / 2 ^ k) 1 == 1) = n.testBit k := by
  have e : ((n : Int) / 2 ^ k) = ((n / 2 ^ k : Nat) : Int) := by rw [Int.natCast_ediv, Int.natCast_pow]; rfl
  have hl : n / 2 ^ k < 256 := Nat.lt_of_le_of_lt (Nat.div_le_self _ _) hn
  rw [e, show (1 : Int) = ((1 : Nat) : Int) from rfl, and_nat _ 1 hl (by omega), Nat.and_one_is_mod]
  rw [Nat.testBit, Nat.shiftRight_eq_div_pow, Nat.and_comm, Nat.and_one_is_mod]
  rcases Nat.mod_two_eq_zero_or_one (n / 2 ^ k) with h | h <;> rw [h] <;> rfl
/-- All that one says another one says. -/
def sub (m n : Nat) : Bool := (List.range 8).all fun k => !m.testBit k || n.testBit k
theorem sub_iff (m n : Nat) : sub m n = true ↔ ∀ k, k < 8 → m.testBit k = true → n.testBit k = true := by
  unfold sub
  rw [List.all_eq_true]
  constructor
  · intro h k hk hm
    have := h k (List.mem_range.2 hk)
    rw [hm] at this
    simpa using this
  · intro h k hk
    cases hm : m.testBit k
    · rfl
    · simpa using h k (List.mem_range.1 hk) hm
theorem testBit_high (m k : Nat) (hm : m < 256) (hk : 8 ≤ k) : m.testBit k = false := Nat.testBit_lt_two_pow (Nat.lt_of_lt_of_le hm (show 2 ^ 8 ≤ 2 ^ k from Nat.pow_le_pow_right (by decide) hk))
theorem andNot_sub (m n : Nat) (hm : m < 256) (hn : n < 256) : (bits .andNot .i64 (m : Int) (n : Int) == 0) = sub m n := by
  have e : bits .andNot .i64 (m : Int) (n : Int) = IntKind.i64.wrap ((BitVec.ofInt 64 (m : Int) &&& ~~~ BitVec.ofInt 64 (n : Int)).toNat : Int) := rfl
  have hx : (BitVec.ofInt 64 (m : Int) &&& ~~~ BitVec.ofInt 64 (n : Int)).toNat < 256 := by
    rw [BitVec.toNat_and, ofInt_toNat m hm]
    exact Nat.lt_of_le_of_lt Nat.and_le_left hm
  rw [e, wrap_small _ hx, Bool.eq_iff_iff, beq_iff_eq, sub_iff]
  have hb : ∀ k, (BitVec.ofInt 64 (m : Int)).getLsbD k = m.testBit k := fun k => by rw [← BitVec.testBit_toNat, ofInt_toNat m hm]
  have hc : ∀ k, (BitVec.ofInt 64 (n : Int)).getLsbD k = n.testBit k := fun k => by rw [← BitVec.testBit_toNat, ofInt_toNat n hn]
  constructor
  · intro h k hk hmk
    have h0 : (BitVec.ofInt 64 (m : Int) &&& ~~~ BitVec.ofInt 64 (n : Int)) = 0#64 := BitVec.eq_of_toNat_eq (by simpa using h)
    have := congrArg (fun v => v.getLsbD k) h0
    simp only [BitVec.getLsbD_and, BitVec.getLsbD_not, hb, hc, hmk] at this
    simpa [show k < 64 by omega] using this
  · intro h
    have : (BitVec.ofInt 64 (m : Int) &&& ~~~ BitVec.ofInt 64 (n : Int)) = 0#64 := by
      apply BitVec.eq_of_getLsbD_eq
      intro k hk
      simp only [BitVec.getLsbD_and, BitVec.getLsbD_not, hb, hc]
      by_cases hk8 : k < 8
      · cases hmk : m.testBit k
        · simp
        · simp [h k hk8 hmk]
      · simp [testBit_high m k hm (by omega)]
    rw [this]
    rfl
def isP (n : Int) : Bool := decide (0 ≤ n) && decide (n ≤ 255)
theorem isP_yes {n : Int} (h : isP n = true) : ∃ m : Nat, m < 256 ∧ n = m := by
  unfold isP at h
  rw [Bool.and_eq_true, decide_eq_true_eq, decide_eq_true_eq] at h
  exact ⟨n.toNat, by omega, by omega⟩
theorem isP_nat (n : Nat) (h : n < 256) : isP (n : Int) = true := by unfold isP; rw [decide_eq_true (by omega), decide_eq_true (by omega)]; rfl
def hasN (m n : Nat) : Bool := m.testBit 0 || sub n m
def hasP (a b : Int) : Bool := isP a && isP b && hasN a.toNat b.toNat
def bothN (m n : Nat) : Nat := if m.testBit 0 then (if n.testBit 0 then 255 else n) else if n.testBit 0 then m else m &&& n
def bothV (a b : Int) : Int × Int := if isP a && isP b then (((bothN a.toNat b.toNat : Nat) : Int), 0) else (0, 1)
def takeV (n : Int) : Int × Int := if decide (n < 1) || decide (4 < n) then (0, 1) else (2 ^ (3 + n.toNat), 0)
theorem is_any (n : Int) (w : World) :
    Calls Tryd.prog 19 #[.int .i64 n] w fun e w' => e = .returned (.bool (isP n)) ∧ w = w' := by
  have HI : Hid (isP n = (decide (0 ≤ n) && decide (n ≤ 255))) := rfl
  generalize isP n = B at *
  by_cases h1 : 0 ≤ n
  · have d1 := decide_eq_true h1
    by_cases h2 : n ≤ 255
    · have HB : Hid (B = true) := by show B = true; rw [HI.out, decide_eq_true h1, decide_eq_true h2]; rfl
      have d2 : decide (n < 256) = true := decide_eq_true (by omega)
      clear h2
      go_enter Tryd.func19, Tryd.ntmps19
      go_wp2
      go_ret
      exact ⟨by rw [HB.out]; rfl, rfl⟩
    · have HB : Hid (B = false) := by show B = false; rw [HI.out, decide_eq_false h2]; simp
      have d2 : decide (n < 256) = false := decide_eq_false (by omega)
      clear h2
      go_enter Tryd.func19, Tryd.ntmps19
      go_wp2
      go_ret
      exact ⟨by rw [HB.out]; rfl, rfl⟩
  · have HB : Hid (B = false) := by show B = false; rw [HI.out, decide_eq_false h1]; rfl
    have d1 := decide_eq_false h1
    go_enter Tryd.func19, Tryd.ntmps19
    go_wp2
    go_ret
    exact ⟨by rw [HB.out]; rfl, rfl⟩
theorem may_any (n : Int) (w : World) :
    Calls Tryd.prog 18 #[.int .i64 n] w fun e w' => e = .returned (.bool (isP n)) ∧ w = w' := by
  have HI : Hid (isP n = (decide (0 ≤ n) && decide (n ≤ 255))) := rfl
  generalize isP n = B at *
  by_cases h1 : 0 ≤ n
  · have d1 := decide_eq_true h1
    by_cases h2 : n ≤ 255
    · have HB : Hid (B = true) := by show B = true; rw [HI.out, decide_eq_true h1, decide_eq_true h2]; rfl
      have d2 := decide_eq_true h2
      go_enter Tryd.func18, Tryd.ntmps18
      go_wp2
      go_ret
      exact ⟨by rw [HB.out]; rfl, rfl⟩
    · have HB : Hid (B = false) := by show B = false; rw [HI.out, decide_eq_false h2]; simp
      have d2 := decide_eq_false h2
      go_enter Tryd.func18, Tryd.ntmps18
      go_wp2
      go_ret
      exact ⟨by rw [HB.out]; rfl, rfl⟩
  · have HB : Hid (B = false) := by show B = false; rw [HI.out, decide_eq_false h1]; rfl
    have d1 := decide_eq_false h1
    go_enter Tryd.func18, Tryd.ntmps18
    go_wp2
    go_ret
    exact ⟨by rw [HB.out]; rfl, rfl⟩
theorem check_any (n : Int) (w : World) :
    Calls Tryd.prog 17 #[.int .i64 n] w fun e w' => e = .returned (.int .i64 (if isP n then 0 else 1)) ∧ w = w' := by
  have CI : Hid (∀ W, Calls Tryd.prog 19 #[.int .i64 n] W fun e w' => e = .returned (.bool (isP n)) ∧ W = w') := is_any n
  generalize isP n = B at *
  cases B
  · go_enter Tryd.func17, Tryd.ntmps17
    go_wp2_with (go_at_call 19; ((with_reducible refine (CI.out _).mono ?_); rintro e w1 ⟨rfl, rfl⟩))
    go_ret
    exact ⟨rfl, rfl⟩
  · go_enter Tryd.func17, Tryd.ntmps17
    go_wp2_with (go_at_call 19; ((with_reducible refine (CI.out _).mono ?_); rintro e w1 ⟨rfl, rfl⟩))
    go_ret
    exact ⟨rfl, rfl⟩
theorem bit_any (n : Nat) (k : Nat) (hn : n < 256) (hk : k < 8) (w : World) :
    Calls Tryd.prog 23 #[.int .i64 (n : Int), .int .i64 (k : Int)] w fun e w' => e = .returned (.bool (n.testBit k)) ∧ w = w' := by
  have HB := Lib.hid (bit_one n k hn)
  go_enter Tryd.func23, Tryd.ntmps23
  go_wp2
  go_ret
  exact ⟨by rw [← HB.out]; rfl, rfl⟩
theorem bit_zero (n : Nat) (hn : n < 256) (w : World) :
    Calls Tryd.prog 23 #[.int .i64 (n : Int), .int .i64 0] w fun e w' => e = .returned (.bool (n.testBit 0)) ∧ w = w' := bit_any n 0 hn (by omega) w
theorem leads_any (n : Nat) (hn : n < 256) (w : World) :
    Calls Tryd.prog 26 #[.int .i64 (n : Int)] w fun e w' => e = .returned (.bool (n.testBit 0)) ∧ w = w' := by
  have HB : Hid ((bits .and .i64 (n : Int) 1 == 1) = n.testBit 0) := by
    have := bit_one n 0 hn
    rwa [show ((n : Int) / 2 ^ 0) = n by simp] at this
  go_enter Tryd.func26, Tryd.ntmps26
  go_wp2
  go_ret
  exact ⟨by rw [← HB.out]; rfl, rfl⟩
end Rol
end Go.Proofs.YtfmcggejifnhfaaDoor
