/- Whether weights may be. -/
import Derived.Test.YtbfcgaijplhcoaaFeeT
import Derived.Test.YtbfcgaijplhcoaaInI
namespace Go.Proofs.Ytbfcgaijplhcoaa
open Go.RowKit
namespace Fee
open In (Ints IsInts)
theorem total1_any (n : Int) (w : World) :
    Calls Try.prog 30 #[.int .i64 n] w fun e w' => e = .returned (.bool (!inR n 1152921504606846976)) ∧ w = w' := by
  have CC : Hid (∀ W, Calls Try.prog 19 #[.int .i64 n] W fun e w' => e = .returned (.bool (inR n 1152921504606846976)) ∧ W = w') := money_any n
  generalize inR n 1152921504606846976 = B at *
  cases B
  · go_enter Try.func30, Try.ntmps30
    go_wp2_with (go_at_call 19; ((with_reducible refine (CC.out _).mono ?_); rintro e w1 ⟨rfl, rfl⟩))
    go_ret
    exact ⟨rfl, rfl⟩
  · go_enter Try.func30, Try.ntmps30
    go_wp2_with (go_at_call 19; ((with_reducible refine (CC.out _).mono ?_); rintro e w1 ⟨rfl, rfl⟩))
    go_ret
    exact ⟨rfl, rfl⟩
/-- The first k weights are money. -/
def monTo (l : List Int) : Nat → Bool
  | 0 => true
  | k + 1 => monTo l k && inR (l.getD k 0) 1152921504606846976
theorem monTo_no (l : List Int) (k j : Nat) (h : inR (l.getD k 0) 1152921504606846976 = false) (hj : k < j) : monTo l j = false := by
  induction j with
  | zero => omega
  | succ j ih =>
    rw [monTo]
    by_cases e : k = j
    · subst e; rw [h]; simp
    · rw [ih (by omega)]; rfl
theorem monTo_at (l : List Int) (n k : Nat) (h : monTo l n = true) (hk : k < n) : inR (l.getD k 0) 1152921504606846976 = true := by
  cases hc : inR (l.getD k 0) 1152921504606846976
  · rw [monTo_no l k n hc hk] at h; cases h
  · rfl
set_option maxHeartbeats 1000000 in
theorem index_any (a : Option Addr) (cap : Nat) (l : List Int) (hl : l.length ≤ 4096) (w : World) (ha : Ints .i64 w a l) :
    Calls Try.prog 35 #[.slice a l.length cap, .func (.func 30) #[] #[]] w fun e w' => (∃ i : Int, e = .returned (.int .i64 i) ∧ decide (0 ≤ i) = !monTo l l.length) ∧ w = w' := by
  have HA := Lib.hid ha
  clear ha
  go_enter Try.func35, Try.ntmps35
  go_wp2
  go_loop [8] (fun i => ∃ k : Nat, k ≤ l.length ∧ i = .int .i64 k ∧ Hid (monTo l k = true)) (fun i => l.length - (intOf i).toNat)
  case atStart => exact ⟨0, by omega, rfl, rfl⟩
  case round =>
    obtain ⟨k, hk, rfl, HM⟩ := hrel
    by_cases hlt : k < l.length
    · obtain ⟨b, off, rfl, hbl, hc⟩ := HA.out k hlt
      have hlt1 : (k : Int) < (l.length : Int) := by omega
      have CC := Lib.hid (total1_any (l.getD k 0))
      have HN : Hid (inR (l.getD k 0) 1152921504606846976 = false → monTo l l.length = false) := fun h => monTo_no l k _ h hlt
      have HY : Hid (inR (l.getD k 0) 1152921504606846976 = true → monTo l (k + 1) = true) := fun h => by rw [monTo, HM.out, h]; rfl
      generalize inR (l.getD k 0) 1152921504606846976 = B at *
      generalize l.getD k 0 = T at *
      cases B
      · replace HN := Lib.hid (HN.out rfl)
        replace CC : Hid (∀ w : World, Calls Try.prog 30 #[.int .i64 T] w fun e w' => e = .returned (.bool true) ∧ w = w') := CC.out
        go_wp2_with (go_at_call 30; ((with_reducible refine (CC.out _).mono ?_); rintro e w1 ⟨rfl, rfl⟩))
        go_ret
        exact ⟨⟨(k : Int), rfl, by rw [HN.out]; exact decide_eq_true (by omega)⟩, rfl⟩
      · replace HY := Lib.hid (HY.out rfl)
        replace CC : Hid (∀ w : World, Calls Try.prog 30 #[.int .i64 T] w fun e w' => e = .returned (.bool false) ∧ w = w') := CC.out
        go_wp2_with (go_at_call 30; ((with_reducible refine (CC.out _).mono ?_); rintro e w1 ⟨rfl, rfl⟩))
        go_round
        case rel => exact ⟨k + 1, by omega, by go_num, HY⟩
        case measure => simp [intOf]; omega
    · have hke : Hid (monTo l l.length = true) := by show monTo l l.length = true; rw [← show k = l.length by omega]; exact HM.out
      go_wp2
      go_ret
      exact ⟨⟨-1, rfl, by rw [hke.out]; rfl⟩, rfl⟩
theorem contains_any (a : Option Addr) (cap : Nat) (l : List Int) (hl : l.length ≤ 4096) (w : World) (ha : Ints .i64 w a l) :
    Calls Try.prog 29 #[.slice a l.length cap, .func (.func 30) #[] #[]] w fun e w' => e = .returned (.bool (!monTo l l.length)) ∧ w = w' := by
  have CC := Lib.hid (index_any a cap l hl w ha)
  clear hl ha
  generalize (!monTo l l.length) = B at *
  go_enter Try.func29, Try.ntmps29
  go_wp2_with (go_at_call 35; ((with_reducible refine CC.out.mono ?_); rintro e w1 ⟨⟨i, rfl, hi⟩, rfl⟩))
  go_ret
  exact ⟨by rfl, rfl⟩
end Fee
end Go.Proofs.Ytbfcgaijplhcoaa
