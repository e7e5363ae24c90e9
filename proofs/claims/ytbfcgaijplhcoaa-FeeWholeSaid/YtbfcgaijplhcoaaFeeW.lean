/- The sum of weights. -/
import Derived.Test.YtbfcgaijplhcoaaFeeV
namespace Go.Proofs.Ytbfcgaijplhcoaa
open Go.RowKit
namespace Fee
open In (Ints IsInts)
theorem add_nn (s x : Int) (hs : 0 ≤ s) (hs2 : s ≤ 9223372036854775807) (hx : 0 ≤ x) (hx2 : x ≤ 1152921504606846976) (w : World) :
    Calls Try.prog 36 #[.int .i64 s, .int .i64 x] w fun e w' => e = .returned (.tuple #[.int .i64 (if s + x ≤ 9223372036854775807 then s + x else 0), .int .i64 (if s + x ≤ 9223372036854775807 then 0 else 5)]) ∧ w = w' := by
  have d1 : decide (0 ≤ s) = true := decide_eq_true hs
  have d2 : decide (0 ≤ x) = true := decide_eq_true hx
  obtain ⟨T, hT⟩ : ∃ T : Int, wrap64 (s + x) = T := ⟨_, rfl⟩
  have hT' : wrap64 (s + x) = T := hT
  unfold wrap64 at hT'
  by_cases g : s + x ≤ 9223372036854775807
  · have d3 : decide (0 ≤ T) = true := decide_eq_true (by omega)
    have HR : Hid (s + x = T) := by show s + x = T; omega
    have HT : Hid (wrap64 T = T) := by show wrap64 T = T; unfold wrap64; omega
    rw [if_pos g, if_pos g]
    clear hT' g hs hs2 hx hx2
    go_enter Try.func36, Try.ntmps36
    go_wp2
    go_ret2
    exact ⟨by rw [HR.out, HT.out]; rfl, rfl⟩
  · have d3 : decide (0 ≤ T) = false := decide_eq_false (by omega)
    rw [if_neg g, if_neg g]
    clear hT' g hs hs2 hx hx2
    go_enter Try.func36, Try.ntmps36
    go_wp2
    go_ret2
    exact ⟨rfl, rfl⟩
def smTo (l : List Int) : Nat → Int
  | 0 => 0
  | k + 1 => smTo l k + l.getD k 0
theorem smTo_mono (l : List Int) (n : Nat) (h : monTo l n = true) (j k : Nat) (hj : j ≤ k) (hk : k ≤ n) : 0 ≤ smTo l j ∧ smTo l j ≤ smTo l k := by
  have hp : ∀ k, k ≤ n → 0 ≤ smTo l k := by
    intro k
    induction k with
    | zero => intro _; exact Int.le_refl 0
    | succ k ih =>
      intro hk
      have h1 := ih (by omega)
      have h2 := (inR_yes (monTo_at l n k h (by omega))).1
      rw [smTo]; omega
  refine ⟨hp j (by omega), ?_⟩
  induction k with
  | zero => obtain rfl : j = 0 := by omega
            exact Int.le_refl _
  | succ k ih =>
    by_cases e : j = k + 1
    · subst e; exact Int.le_refl _
    · have h1 := ih (by omega) (by omega)
      have h2 := (inR_yes (monTo_at l n k h (by omega))).1
      rw [smTo]; omega
set_option maxHeartbeats 1000000 in
theorem sum_nn (a : Option Addr) (cap : Nat) (l : List Int) (hl : l.length ≤ 16) (hm : monTo l l.length = true) (w : World) (ha : Ints .i64 w a l) :
    Calls Try.prog 31 #[.slice a l.length cap] w fun e w' => (smTo l l.length ≤ 9223372036854775807 ∧ e = .returned (.tuple #[.int .i64 (smTo l l.length), .int .i64 0]) ∨ ¬ smTo l l.length ≤ 9223372036854775807 ∧ e = .returned (.tuple #[.int .i64 0, .int .i64 5])) ∧ w = w' := by
  have HM := Lib.hid hm
  have HA := Lib.hid ha
  clear hm ha
  go_enter Try.func31, Try.ntmps31
  go_wp2
  go_loop [4, 11] (fun n i => ∃ (k : Nat) (s : Int), k ≤ l.length ∧ i = .int .i64 k ∧ n = .int .i64 s ∧ Hid (smTo l k = s ∧ s ≤ 9223372036854775807)) (fun _ i => l.length - (intOf i).toNat)
  case atStart => exact ⟨0, 0, by omega, rfl, rfl, ⟨rfl, by omega⟩⟩
  case round =>
    obtain ⟨k, s, hk, rfl, rfl, HP⟩ := hrel
    by_cases hlt : k < l.length
    · obtain ⟨b, off, rfl, hb, hc⟩ := HA.out k hlt
      have hlt1 : (k : Int) < (l.length : Int) := by omega
      have hr := inR_yes (monTo_at l l.length k HM.out hlt)
      have hmo := smTo_mono l l.length HM.out k l.length (by omega) (Nat.le_refl _)
      have hmo2 := smTo_mono l l.length HM.out (k + 1) l.length (by omega) (Nat.le_refl _)
      have hsu : Hid (smTo l (k + 1) = smTo l k + l.getD k 0) := rfl
      rw [hsu.out, HP.out.1] at hmo2
      rw [HP.out.1] at hmo
      have AD := Lib.hid (add_nn s (l.getD k 0) hmo.1 HP.out.2 hr.1 hr.2)
      generalize l.getD k 0 = x at *
      by_cases g : s + x ≤ 9223372036854775807
      · have AD2 : Hid (∀ w, Calls Try.prog 36 #[.int .i64 s, .int .i64 x] w fun e w' => e = .returned (.tuple #[.int .i64 (s + x), .int .i64 0]) ∧ w = w') := fun w => by have := AD.out w; rwa [if_pos g, if_pos g] at this
        have HP2 : Hid (smTo l (k + 1) = s + x ∧ s + x ≤ 9223372036854775807) := ⟨by rw [hsu.out, HP.out.1], g⟩
        clear g hr hmo hmo2
        generalize s + x = y at *
        go_wp2_with (go_at_call 36; ((with_reducible refine (AD2.out _).mono ?_); rintro e w1 ⟨rfl, rfl⟩))
        go_round
        case rel => exact ⟨k + 1, y, by omega, by go_num, rfl, HP2⟩
        case measure => simp [intOf]; omega
      · have AD2 : Hid (∀ w, Calls Try.prog 36 #[.int .i64 s, .int .i64 x] w fun e w' => e = .returned (.tuple #[.int .i64 0, .int .i64 5]) ∧ w = w') := fun w => by have := AD.out w; rwa [if_neg g, if_neg g] at this
        have HO : Hid (¬ smTo l l.length ≤ 9223372036854775807) := by show ¬ _; omega
        clear g hr hmo hmo2
        go_wp2_with (go_at_call 36; ((with_reducible refine (AD2.out _).mono ?_); rintro e w1 ⟨rfl, rfl⟩))
        go_ret2
        exact ⟨.inr ⟨HO.out, rfl⟩, rfl⟩
    · have hp := Lib.hid HP.out
      have hke : Hid (smTo l l.length = s ∧ s ≤ 9223372036854775807) := by show _ ∧ _; rw [← show k = l.length by omega]; exact HP.out
      clear hp
      go_wp2
      go_ret2
      exact ⟨.inl ⟨by rw [hke.out.1]; exact hke.out.2, by rw [hke.out.1]; rfl⟩, rfl⟩
end Fee
end Go.Proofs.Ytbfcgaijplhcoaa
