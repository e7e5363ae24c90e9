/- The reference's Split, for any numbers. -/
import Derived.Test.YtbfcgaijplhcoaaFeeC
namespace Go.Proofs.Ytbfcgaijplhcoaa
open Go.Sort Go.RowKit
namespace Fee
open In (Ints IsInts)
theorem none_out {V : List Int × Int} {E : Int} (h : V = ([], E)) {w w' : World} (hb : Below w.heap.size w w') : SplitOut V.1 V.2 w (.returned (.tuple #[.slice none 0 0, .int .i64 E])) w' := by
  rw [h]
  exact ⟨none, 0, rfl, fun i hi => absurd hi (Nat.not_lt_zero _), hb⟩
set_option maxRecDepth 100000 in
set_option maxHeartbeats 8000000 in
theorem refSplit_no (n : Int) (l : List Int) (a : Option Addr) (cap : Nat) (hl : l.length ≤ 4096) (V : List Int × Int) (hV : V = ([], 1)) (h : inR n 1152921504606846976 = false ∨ ¬ (1 ≤ l.length ∧ l.length ≤ 16)) (w : World) :
    Calls Try.prog 8 #[.int .i64 n, .slice a l.length cap] w (SplitOut V.1 V.2 w) := by
  replace hV := Lib.hid hV
  by_cases h1 : n < 0
  · have d1 : decide (n < 0) = true := decide_eq_true h1
    clear h
    go_enter Try.func8, Try.ntmps8
    go_wp2
    go_ret2
    exact none_out hV.out (Below.refl _ _)
  have d1 : decide (n < 0) = false := decide_eq_false h1
  by_cases h2 : 1152921504606846976 < n
  · have d2 : decide (1152921504606846976 < n) = true := decide_eq_true h2
    clear h
    go_enter Try.func8, Try.ntmps8
    go_wp2
    go_ret2
    exact none_out hV.out (Below.refl _ _)
  have d2 : decide (1152921504606846976 < n) = false := decide_eq_false h2
  replace h : ¬ (1 ≤ l.length ∧ l.length ≤ 16) := by
    rcases h with h | h
    · rcases inR_no h with h | h <;> omega
    · exact h
  by_cases h3 : l.length < 1
  · have d3 : decide ((l.length : Int) < 1) = true := decide_eq_true (by omega)
    clear h h1 h2
    go_enter Try.func8, Try.ntmps8
    go_wp2
    go_ret2
    exact none_out hV.out (Below.refl _ _)
  have d3 : decide ((l.length : Int) < 1) = false := decide_eq_false (by omega)
  have d4 : decide ((16 : Int) < (l.length : Int)) = true := decide_eq_true (by omega)
  clear h h1 h2
  go_enter Try.func8, Try.ntmps8
  go_wp2
  go_ret2
  exact none_out hV.out (Below.refl _ _)
set_option maxRecDepth 100000 in
set_option maxHeartbeats 8000000 in
theorem refSplit_bad (n : Int) (l : List Int) (a : Option Addr) (cap : Nat) (V : List Int × Int) (hV : V = ([], 1)) (hn : inR n 1152921504606846976 = true) (hl1 : 1 ≤ l.length) (hl16 : l.length ≤ 16) (hm : monTo l l.length = false) (w : World) (ha : Ints .i64 w a l) :
    Calls Try.prog 8 #[.int .i64 n, .slice a l.length cap] w (SplitOut V.1 V.2 w) := by
  replace hV := Lib.hid hV
  have HA := Lib.hid ha
  have HM := Lib.hid hm
  have hn2 := inR_yes hn
  have dN1 : decide (n < 0) = false := decide_eq_false (by omega)
  have dN2 : decide (1152921504606846976 < n) = false := decide_eq_false (by omega)
  have dL1 : decide ((l.length : Int) < 1) = false := decide_eq_false (by omega)
  have dL2 : decide ((16 : Int) < (l.length : Int)) = false := decide_eq_false (by omega)
  clear hn hn2 hm ha
  go_enter Try.func8, Try.ntmps8
  go_wp2
  go_loop [7] (fun v7 => ∃ k : Nat, k ≤ l.length ∧ v7 = .int .i64 k ∧ Hid (monTo l k = true)) (fun v7 => l.length - (intOf v7).toNat)
  case atStart => exact ⟨0, by omega, rfl, rfl⟩
  case round =>
    obtain ⟨k, hk, rfl, HK⟩ := hrel
    by_cases hlt : k < l.length
    · obtain ⟨b, off, rfl, hb, hc⟩ := HA.out k hlt
      have hlt1 : (k : Int) < (l.length : Int) := by omega
      have HY : Hid (inR (l.getD k 0) 1152921504606846976 = true → monTo l (k + 1) = true) := fun h => by rw [monTo, HK.out, h]; rfl
      generalize l.getD k 0 = X at *
      by_cases h1 : X < 0
      · have d1 : decide (X < 0) = true := decide_eq_true h1
        go_wp2
        go_ret2
        exact none_out hV.out (Below.refl _ _)
      have d1 : decide (X < 0) = false := decide_eq_false h1
      by_cases h2 : 1152921504606846976 < X
      · have d2 : decide (1152921504606846976 < X) = true := decide_eq_true h2
        go_wp2
        go_ret2
        exact none_out hV.out (Below.refl _ _)
      have d2 : decide (1152921504606846976 < X) = false := decide_eq_false h2
      have HK2 := Lib.hid (HY.out (by unfold inR; rw [decide_eq_true (show 0 ≤ X by omega), decide_eq_true (show X ≤ 1152921504606846976 by omega)]; rfl))
      go_wp2
      go_round
      case rel => exact ⟨k + 1, by omega, by go_num, HK2⟩
      case measure => simp [intOf]; omega
    · exfalso
      have := HK.out
      rw [show k = l.length by omega, HM.out] at this
      cases this
set_option maxRecDepth 100000 in
set_option maxHeartbeats 8000000 in
theorem refSplit_sum (n : Int) (l : List Int) (a : Option Addr) (cap : Nat) (V : List Int × Int) (hn : inR n 1152921504606846976 = true) (hl1 : 1 ≤ l.length) (hl16 : l.length ≤ 16) (hm : monTo l l.length = true)
    (hV1 : 1152921504606846976 < smTo l l.length → V = ([], 5)) (hV2 : smTo l l.length = 0 → V = ([], 1)) (hs : 1152921504606846976 < smTo l l.length ∨ smTo l l.length = 0) (w : World) (ha : Ints .i64 w a l) :
    Calls Try.prog 8 #[.int .i64 n, .slice a l.length cap] w (SplitOut V.1 V.2 w) := by
  replace hV1 := Lib.hid hV1
  replace hV2 := Lib.hid hV2
  have HA := Lib.hid ha
  have HM := Lib.hid hm
  have HS := Lib.hid hs
  have hn2 := inR_yes hn
  have dN1 : decide (n < 0) = false := decide_eq_false (by omega)
  have dN2 : decide (1152921504606846976 < n) = false := decide_eq_false (by omega)
  have dL1 : decide ((l.length : Int) < 1) = false := decide_eq_false (by omega)
  have dL2 : decide ((16 : Int) < (l.length : Int)) = false := decide_eq_false (by omega)
  clear hn hn2 hm ha hs
  go_enter Try.func8, Try.ntmps8
  go_wp2
  go_loop [7] (fun v7 => ∃ k : Nat, k ≤ l.length ∧ v7 = .int .i64 k) (fun v7 => l.length - (intOf v7).toNat)
  case atStart => exact ⟨0, by omega, rfl⟩
  case round =>
    obtain ⟨k, hk, rfl⟩ := hrel
    by_cases hlt : k < l.length
    · obtain ⟨b, off, rfl, hb, hc⟩ := HA.out k hlt
      have hlt1 : (k : Int) < (l.length : Int) := by omega
      have hr := inR_yes (monTo_at l l.length k HM.out hlt)
      generalize l.getD k 0 = X at *
      have d1 : decide (X < 0) = false := decide_eq_false (by omega)
      have d2 : decide (1152921504606846976 < X) = false := decide_eq_false (by omega)
      go_wp2
      go_round
      case rel => exact ⟨k + 1, by omega, by go_num⟩
      case measure => simp [intOf]; omega
    · have hge : ¬ (k : Int) < (l.length : Int) := by omega
      clear hlt
      go_wp2
      go_loop [6, 8] (fun v6 v8 => ∃ (k : Nat) (M : Int), k ≤ l.length ∧ v8 = .int .i64 k ∧ v6 = .int .i64 M ∧ Hid (M = smTo l k ∧ M ≤ 1152921504606846976)) (fun _ v8 => l.length - (intOf v8).toNat)
      case atStart => exact ⟨0, 0, by omega, rfl, rfl, ⟨rfl, by omega⟩⟩
      case round =>
        obtain ⟨k, M, hk, rfl, rfl, HK⟩ := hrel
        by_cases hlt : k < l.length
        · obtain ⟨b, off, rfl, hb, hc⟩ := HA.out k hlt
          have hlt1 : (k : Int) < (l.length : Int) := by omega
          have hr := inR_yes (monTo_at l l.length k HM.out hlt)
          have m1 := smTo_mono l l.length HM.out k l.length (by omega) (Nat.le_refl _)
          have m0 := smTo_mono l l.length HM.out (k + 1) l.length (by omega) (Nat.le_refl _)
          have HS2 : Hid (smTo l (k + 1) = smTo l k + l.getD k 0) := rfl
          rw [HS2.out, ← HK.out.1] at m0
          rw [← HK.out.1] at m1 HS2
          have hk2 := HK.out.2
          generalize l.getD k 0 = X at *
          obtain ⟨T, wT, hT⟩ : ∃ A, wrap64 (1152921504606846976 - M) = A ∧ A = 1152921504606846976 - M := ⟨1152921504606846976 - M, by unfold wrap64; omega, rfl⟩
          by_cases g : T < X
          · have d1 : decide (T < X) = true := decide_eq_true g
            have HV : Hid (V = ([], 5)) := hV1.out (by omega)
            clear m1 m0 hr hT hk2
            go_wp2
            go_ret2
            exact none_out HV.out (Below.refl _ _)
          · have d1 : decide (T < X) = false := decide_eq_false g
            obtain ⟨M2, wM, hM2⟩ : ∃ A, wrap64 (M + X) = A ∧ Hid (A = smTo l (k + 1) ∧ A ≤ 1152921504606846976) := ⟨M + X, by unfold wrap64; omega, HS2.out.symm, by omega⟩
            clear m1 m0 hr hT hk2 g
            go_wp2
            go_round
            case rel => exact ⟨k + 1, M2, by omega, by go_num, by rw [wM], hM2⟩
            case measure => simp [intOf]; omega
        · have hge : ¬ (k : Int) < (l.length : Int) := by omega
          have h3 := HK.out
          rw [show k = l.length by omega] at h3
          have e0 : M = 0 := by
            rcases HS.out with h | h
            · omega
            · rw [h3.1, h]
          subst e0
          have HV : Hid (V = ([], 1)) := hV2.out h3.1.symm
          clear hlt h3
          go_wp2
          go_ret2
          exact none_out HV.out (Below.refl _ _)
theorem refSplit_any (n : Int) (l : List Int) (a : Option Addr) (cap : Nat) (hl : l.length ≤ 4096) (w : World) (ha : Ints .i64 w a l) :
    Calls Try.prog 8 #[.int .i64 n, .slice a l.length cap] w (SplitOut (splitV n l).1 (splitV n l).2 w) := by
  have hdef : splitV n l = if inR n 1152921504606846976 then (if (totV l).2 = 0 then (outV n.toNat (totV l).1.toNat l, 0) else ([], (totV l).2)) else ([], 1) := rfl
  have hT : totV l = if okW l then (if 1152921504606846976 < smTo l l.length then (0, 5) else if smTo l l.length = 0 then (0, 1) else (smTo l l.length, 0)) else (0, 1) := rfl
  have hO : okW l = (decide (1 ≤ l.length) && (decide (l.length ≤ 16) && monTo l l.length)) := rfl
  cases hn : inR n 1152921504606846976
  · rw [hn] at hdef
    exact refSplit_no n l a cap hl _ hdef (.inl hn) w
  rw [hn, if_pos rfl] at hdef
  by_cases hlen : 1 ≤ l.length ∧ l.length ≤ 16
  · rw [decide_eq_true hlen.1, decide_eq_true hlen.2] at hO
    cases hm : monTo l l.length
    · rw [hm] at hO
      rw [hO] at hT
      rw [hT] at hdef
      exact refSplit_bad n l a cap _ hdef hn hlen.1 hlen.2 hm w ha
    · rw [hm] at hO
      rw [hO, if_pos (by rfl)] at hT
      by_cases hs : 1152921504606846976 < smTo l l.length ∨ smTo l l.length = 0
      · refine refSplit_sum n l a cap _ hn hlen.1 hlen.2 hm (fun h => ?_) (fun h => ?_) hs w ha
        · rw [if_pos h] at hT
          rw [hdef, hT]; rfl
        · rw [if_neg (by omega), if_pos h] at hT
          rw [hdef, hT]; rfl
      · have hT2 : (totV l).2 = 0 := by rw [hT, if_neg (by omega), if_neg (by omega)]
        have hr := inR_yes hn
        obtain ⟨hg, he⟩ := totV_good (n := n.toNat) (by omega) hT2
        rw [if_pos hT2] at hdef
        rw [hdef]
        have := refSplit_core n.toNat (totV l).1.toNat l a cap hg w ha
        rwa [show ((n.toNat : Nat) : Int) = n by omega] at this
  · have h0 : okW l = false := by
      rw [hO]
      by_cases h1 : 1 ≤ l.length
      · rw [decide_eq_true h1, decide_eq_false (show ¬ l.length ≤ 16 by omega)]; rfl
      · rw [decide_eq_false h1]; rfl
    rw [h0] at hT
    rw [hT] at hdef
    exact refSplit_no n l a cap hl _ hdef (.inr hlen) w
end Fee
end Go.Proofs.Ytbfcgaijplhcoaa
