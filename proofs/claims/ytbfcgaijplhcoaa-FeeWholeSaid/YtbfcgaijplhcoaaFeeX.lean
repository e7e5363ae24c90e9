/- What all weights are together; or that they may not be. -/
import Derived.Test.YtbfcgaijplhcoaaFeeW
namespace Go.Proofs.Ytbfcgaijplhcoaa
open Go.RowKit
namespace Fee
open In (Ints IsInts)
def okW (l : List Int) : Bool := decide (1 ≤ l.length) && (decide (l.length ≤ 16) && monTo l l.length)
def totV (l : List Int) : Int × Int := if okW l then (if 1152921504606846976 < smTo l l.length then (0, 5) else if smTo l l.length = 0 then (0, 1) else (smTo l l.length, 0)) else (0, 1)
set_option maxHeartbeats 2000000 in
theorem total_any (a : Option Addr) (cap : Nat) (l : List Int) (hl : l.length ≤ 4096) (w : World) (ha : Ints .i64 w a l) :
    Calls Try.prog 20 #[.slice a l.length cap] w fun e w' => e = .returned (.tuple #[.int .i64 (totV l).1, .int .i64 (totV l).2]) ∧ w = w' := by
  have C1 := Lib.hid (contains_any a cap l hl w ha)
  have C2 : Hid (l.length ≤ 16 → monTo l l.length = true → _) := fun h1 h2 => sum_nn a cap l h1 h2 w ha
  have HS : Hid (totV l = if okW l then (if 1152921504606846976 < smTo l l.length then (0, 5) else if smTo l l.length = 0 then (0, 1) else (smTo l l.length, 0)) else (0, 1)) := rfl
  have HO : Hid (okW l = (decide (1 ≤ l.length) && (decide (l.length ≤ 16) && monTo l l.length))) := rfl
  generalize totV l = V at *
  clear ha
  by_cases h1 : l.length < 1
  · have d1 : decide ((l.length : Int) < 1) = true := decide_eq_true (by omega)
    have HV : Hid (V = (0, 1)) := by show V = _; rw [HS.out, HO.out, decide_eq_false (show ¬ 1 ≤ l.length by omega)]; rfl
    clear h1
    go_enter Try.func20, Try.ntmps20
    go_wp2
    go_ret2
    exact ⟨by rw [HV.out]; rfl, rfl⟩
  have d1 : decide ((l.length : Int) < 1) = false := decide_eq_false (by omega)
  by_cases h2 : 16 < l.length
  · have d2 : decide ((16 : Int) < (l.length : Int)) = true := decide_eq_true (by omega)
    have HV : Hid (V = (0, 1)) := by show V = _; rw [HS.out, HO.out, decide_eq_false (show ¬ l.length ≤ 16 by omega)]; simp
    clear h1 h2
    go_enter Try.func20, Try.ntmps20
    go_wp2
    go_ret2
    exact ⟨by rw [HV.out]; rfl, rfl⟩
  have d2 : decide ((16 : Int) < (l.length : Int)) = false := decide_eq_false (by omega)
  cases hm : monTo l l.length
  · rw [hm] at C1 HO
    have HV : Hid (V = (0, 1)) := by show V = _; rw [HS.out, HO.out]; simp
    replace C1 : Hid (Calls Try.prog 29 #[.slice a l.length cap, .func (.func 30) #[] #[]] w fun e w' => e = .returned (.bool true) ∧ w = w') := C1.out
    clear h1 h2 hm
    go_enter Try.func20, Try.ntmps20
    go_wp2_with (go_at_call 29; ((with_reducible refine C1.out.mono ?_); rintro e w1 ⟨rfl, rfl⟩))
    go_ret2
    exact ⟨by rw [HV.out]; rfl, rfl⟩
  replace C2 := C2.out (by omega) hm
  have hmo := smTo_mono l l.length hm 0 l.length (by omega) (Nat.le_refl _)
  rw [show smTo l 0 = 0 from rfl] at hmo
  rw [hm] at C1 HO
  replace C1 : Hid (Calls Try.prog 29 #[.slice a l.length cap, .func (.func 30) #[] #[]] w fun e w' => e = .returned (.bool false) ∧ w = w') := C1.out
  have HS2 : Hid (V = if 1152921504606846976 < smTo l l.length then (0, 5) else if smTo l l.length = 0 then (0, 1) else (smTo l l.length, 0)) := by
    show V = _
    rw [HS.out, HO.out, decide_eq_true (show 1 ≤ l.length by omega), decide_eq_true (show l.length ≤ 16 by omega)]
    rfl
  clear HS HO
  generalize smTo l l.length = S at *
  by_cases g : S ≤ 9223372036854775807
  · have C3 : Hid (Calls Try.prog 31 #[.slice a l.length cap] w fun e w' => e = .returned (.tuple #[.int .i64 S, .int .i64 0]) ∧ w = w') := C2.mono fun e w' ⟨h, hw⟩ => by
      rcases h with h | h
      · exact ⟨h.2, hw⟩
      · exact absurd g h.1
    clear C2
    by_cases g2 : 1152921504606846976 < S
    · have d3 := decide_eq_true g2
      have HV : Hid (V = (0, 5)) := by show V = _; rw [HS2.out, if_pos g2]
      clear g g2 h1 h2 hm hmo
      go_enter Try.func20, Try.ntmps20
      go_wp2_with (first | (go_at_call 29; ((with_reducible refine C1.out.mono ?_); rintro e w1 ⟨rfl, rfl⟩)) | (go_at_call 31; ((with_reducible refine C3.out.mono ?_); rintro e w1 ⟨rfl, rfl⟩)))
      go_ret2
      exact ⟨by rw [HV.out]; rfl, rfl⟩
    · have d3 := decide_eq_false g2
      by_cases g3 : S = 0
      · have HV : Hid (V = (0, 1)) := by show V = _; rw [HS2.out, if_neg g2, if_pos g3]
        subst g3
        clear g g2 h1 h2 hm hmo
        go_enter Try.func20, Try.ntmps20
        go_wp2_with (first | (go_at_call 29; ((with_reducible refine C1.out.mono ?_); rintro e w1 ⟨rfl, rfl⟩)) | (go_at_call 31; ((with_reducible refine C3.out.mono ?_); rintro e w1 ⟨rfl, rfl⟩)))
        go_ret2
        exact ⟨by rw [HV.out]; rfl, rfl⟩
      · have HV : Hid (V = (S, 0)) := by show V = _; rw [HS2.out, if_neg g2, if_neg g3]
        have d4 : (S == 0) = false := beq_eq_false_iff_ne.2 g3
        clear g g2 g3 h1 h2 hm hmo
        go_enter Try.func20, Try.ntmps20
        go_wp2_with (first | (go_at_call 29; ((with_reducible refine C1.out.mono ?_); rintro e w1 ⟨rfl, rfl⟩)) | (go_at_call 31; ((with_reducible refine C3.out.mono ?_); rintro e w1 ⟨rfl, rfl⟩)))
        go_ret2
        exact ⟨by rw [HV.out]; rfl, rfl⟩
  · have C3 : Hid (Calls Try.prog 31 #[.slice a l.length cap] w fun e w' => e = .returned (.tuple #[.int .i64 0, .int .i64 5]) ∧ w = w') := C2.mono fun e w' ⟨h, hw⟩ => by
      rcases h with h | h
      · exact absurd h.1 g
      · exact ⟨h.2, hw⟩
    have HV : Hid (V = (0, 5)) := by show V = _; rw [HS2.out, if_pos (by omega)]
    clear C2 g h1 h2 hm hmo
    go_enter Try.func20, Try.ntmps20
    go_wp2_with (first | (go_at_call 29; ((with_reducible refine C1.out.mono ?_); rintro e w1 ⟨rfl, rfl⟩)) | (go_at_call 31; ((with_reducible refine C3.out.mono ?_); rintro e w1 ⟨rfl, rfl⟩)))
    go_ret2
    exact ⟨by rw [HV.out]; rfl, rfl⟩
end Fee
end Go.Proofs.Ytbfcgaijplhcoaa
