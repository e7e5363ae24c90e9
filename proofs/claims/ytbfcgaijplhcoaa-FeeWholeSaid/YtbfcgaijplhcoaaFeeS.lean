/- The walk of the reference's Scale, where the part is no more than the whole. -/
import Derived.Test.YtbfcgaijplhcoaaFeeR
import Derived.Test.YtbfcgaijplhcoaaDivF
namespace Go.Proofs.Ytbfcgaijplhcoaa
open Go.RowKit
namespace Fee
theorem quo_mono {a B b c : Nat} (h : B ≤ b) (hb : b ≤ c) (hc : 0 < c) : a * B / c ≤ a := by
  have : a * B ≤ a * c := Nat.mul_le_mul_left a (Nat.le_trans h hb)
  exact Nat.le_trans (Nat.div_le_div_right this) (by rw [Nat.mul_div_cancel _ hc]; exact Nat.le_refl _)
/-- One step, with its numbers as they are reckoned. -/
theorem step (a b c k : Nat) (hbc : b ≤ c) (hc0 : 0 < c) :
    (a * (b / 2 ^ (k + 1)) / c ≤ a ∧ a * (b / 2 ^ (k + 1)) % c < c) ∧
    (c ≤ 2 * (a * (b / 2 ^ (k + 1)) % c) → 2 * (a * (b / 2 ^ (k + 1))) / c = 2 * (a * (b / 2 ^ (k + 1)) / c) + 1 ∧ 2 * (a * (b / 2 ^ (k + 1))) % c = 2 * (a * (b / 2 ^ (k + 1)) % c) - c) ∧
    (¬ c ≤ 2 * (a * (b / 2 ^ (k + 1)) % c) → 2 * (a * (b / 2 ^ (k + 1))) / c = 2 * (a * (b / 2 ^ (k + 1)) / c) ∧ 2 * (a * (b / 2 ^ (k + 1))) % c = 2 * (a * (b / 2 ^ (k + 1)) % c)) ∧
    (2 * (a * (b / 2 ^ (k + 1))) % c < c) ∧
    (b / 2 ^ k % 2 = 0 → a * (b / 2 ^ k) = 2 * (a * (b / 2 ^ (k + 1)))) ∧
    (b / 2 ^ k % 2 = 1 → (c ≤ 2 * (a * (b / 2 ^ (k + 1))) % c + a % c → a * (b / 2 ^ k) / c = 2 * (a * (b / 2 ^ (k + 1))) / c + a / c + 1 ∧ a * (b / 2 ^ k) % c = 2 * (a * (b / 2 ^ (k + 1))) % c + a % c - c) ∧
      (¬ c ≤ 2 * (a * (b / 2 ^ (k + 1))) % c + a % c → a * (b / 2 ^ k) / c = 2 * (a * (b / 2 ^ (k + 1))) / c + a / c ∧ a * (b / 2 ^ k) % c = 2 * (a * (b / 2 ^ (k + 1))) % c + a % c)) ∧
    a * (b / 2 ^ k) / c ≤ a := by
  have hh := half b k
  have T := twice (a * (b / 2 ^ (k + 1))) c hc0
  have M := more (2 * (a * (b / 2 ^ (k + 1)))) a c hc0
  refine ⟨⟨quo_mono (Nat.div_le_self _ _) hbc hc0, Nat.mod_lt _ hc0⟩, T.1, T.2, Nat.mod_lt _ hc0, fun h => ?_, fun h => ?_, quo_mono (Nat.div_le_self _ _) hbc hc0⟩
  · rw [hh, h, Nat.add_zero, Nat.mul_left_comm]
  · have e : a * (b / 2 ^ k) = 2 * (a * (b / 2 ^ (k + 1))) + a := by rw [hh, h, Nat.mul_add, Nat.mul_one, Nat.mul_left_comm]
    rw [e]
    exact M
set_option maxHeartbeats 8000000 in
theorem refScale_small (a b c : Nat) (up : Bool) (ha : a ≤ 1152921504606846976) (hbc : b ≤ c) (hc0 : 1 ≤ c) (hc : c ≤ 1152921504606846976) (w : World) :
    Calls Try.prog 10 #[.int .i64 (a : Int), .int .i64 (b : Int), .int .i64 (c : Int), .bool up] w fun e w' => e = .returned (.tuple #[.int .i64 ((Div.scl a b c up : Nat) : Int), .int .i64 0]) ∧ w = w' := by
  have d1 : decide ((a : Int) < 0) = false := decide_eq_false (by omega)
  have d2 : decide ((b : Int) < 0) = false := decide_eq_false (by omega)
  have d3 : decide ((c : Int) < 1) = false := decide_eq_false (by omega)
  have ca : IntKind.u64.wrap (a : Int) = a := by rw [Div.w64]; omega
  have cc : IntKind.u64.wrap (c : Int) = c := by rw [Div.w64]; omega
  have nc : ¬ (c : Int) = 0 := by omega
  have HA : Hid (a ≤ 1152921504606846976 ∧ b ≤ c ∧ 1 ≤ c ∧ c ≤ 1152921504606846976) := ⟨ha, hbc, hc0, hc⟩
  obtain ⟨A, hA⟩ : ∃ A : Int, Hid ((a : Int) = A) := ⟨_, rfl⟩
  obtain ⟨C, hC⟩ : ∃ A : Int, Hid ((c : Int) = A) := ⟨_, rfl⟩
  rw [hA.out] at d1 ca ⊢
  rw [hC.out] at d3 cc nc ⊢
  clear ha hbc hc0 hc
  go_enter Try.func10, Try.ntmps10
  go_wp2
  go_loop [10, 11, 13] (fun n l i => ∃ (z : Int) (j : Nat) (N L : Int), i = .int .i64 z ∧ Hid (z = (j : Int) - 1 ∧ j ≤ 63) ∧ n = .int .u64 N ∧ l = .int .u64 L ∧ Hid (N = ((a * (b / 2 ^ j) / c : Nat) : Int)) ∧ Hid (L = ((a * (b / 2 ^ j) % c : Nat) : Int))) (fun _ _ i => (intOf i + 1).toNat)
  case atStart =>
    have hb0 : b / 2 ^ 63 = 0 := Nat.div_eq_of_lt (by have := HA.out; omega)
    exact ⟨62, 63, 0, 0, rfl, ⟨rfl, Nat.le_refl _⟩, rfl, rfl, by show (0 : Int) = _; rw [hb0]; simp, by show (0 : Int) = _; rw [hb0]; simp⟩
  case round =>
    obtain ⟨z, j, N, L, rfl, HJ, rfl, rfl, HN, HL⟩ := hrel
    cases j with
    | zero =>
      obtain rfl : z = -1 := by have := HJ.out.1; simpa using this
      have e1 : a * (b / 2 ^ 0) = a * b := by simp
      rw [e1] at HN HL
      have hsc : Hid (Div.scl a b c up = a * b / c + if up && decide (0 < a * b % c) then 1 else 0) := rfl
      have hq := quo_mono (a := a) (Nat.le_refl b) HA.out.2.1 HA.out.2.2.1
      have ha := HA.out.1
      generalize a * b / c = N' at *
      generalize a * b % c = L' at *
      have hN := HN.out
      have hL := HL.out
      have d4 : decide ((9223372036854775807 : Int) < N) = false := decide_eq_false (by omega)
      obtain ⟨M, q1, hM⟩ : ∃ P, IntKind.u64.wrap (N + 1) = P ∧ P = N + 1 := ⟨_, by rw [Div.w64]; omega, rfl⟩
      have d5 : decide ((9223372036854775807 : Int) < M) = false := decide_eq_false (by omega)
      have q2 : wrap64 N = N := by unfold wrap64; omega
      have q3 : wrap64 M = M := by unfold wrap64; omega
      cases up
      · have hR : Hid (((Div.scl a b c false : Nat) : Int) = N) := by show _ = _; rw [show Div.scl a b c false = N' from hsc.out, hN]
        clear hM hq ha hN hL
        go_wp2
        go_ret2
        exact ⟨by rw [hR.out]; rfl, rfl⟩
      · by_cases hL2 : 0 < L
        · have hR : Hid (((Div.scl a b c true : Nat) : Int) = M) := by show _ = _; rw [hsc.out, decide_eq_true (show 0 < L' by omega), hM, hN]; simp
          have d6 : decide ((0 : Int) < L) = true := decide_eq_true hL2
          clear hM hq ha hN hL hL2
          go_wp2
          go_ret2
          exact ⟨by rw [hR.out]; rfl, rfl⟩
        · have hR : Hid (((Div.scl a b c true : Nat) : Int) = N) := by show _ = _; rw [hsc.out, decide_eq_false (show ¬ 0 < L' by omega), hN]; simp
          have d6 : decide ((0 : Int) < L) = false := decide_eq_false hL2
          clear hM hq ha hN hL hL2
          go_wp2
          go_ret2
          exact ⟨by rw [hR.out]; rfl, rfl⟩
    | succ k =>
      obtain rfl : z = (k : Int) := by have := HJ.out.1; omega
      have dz : decide ((0 : Int) ≤ (k : Int)) = true := decide_eq_true (by omega)
      have QZ : Hid (wrap64 ((k : Int) - 1) = (k : Int) - 1) := by show _ = _; have := HJ.out.2; unfold wrap64; omega
      have hbit : (bits .and .i64 ((b : Int) / 2 ^ min k 64) 1 == 1) = decide (b / 2 ^ k % 2 = 1) := by rw [Nat.min_eq_left (show k ≤ 64 by have := HJ.out.2; omega)]; exact bit_of b k
      have ST := Lib.hid (step a b c k HA.out.2.1 HA.out.2.2.1)
      have hN := HN.out
      have hL := HL.out
      have b1 := ST.out.1
      have hA2 := HA.out
      have hCc := hC.out
      generalize a * (b / 2 ^ (k + 1)) / c = n0 at *
      generalize a * (b / 2 ^ (k + 1)) % c = l0 at *
      have d4 : decide ((9223372036854775807 : Int) < N) = false := decide_eq_false (by omega)
      obtain ⟨N1, m1, z1⟩ : ∃ P, IntKind.u64.wrap (2 * N) = P ∧ P = 2 * N := ⟨_, by rw [Div.w64]; omega, rfl⟩
      obtain ⟨L1, m2, z2⟩ : ∃ P, IntKind.u64.wrap (2 * L) = P ∧ P = 2 * L := ⟨_, by rw [Div.w64]; omega, rfl⟩
      by_cases g1 : C ≤ L1
      · have dg : decide (C ≤ L1) = true := decide_eq_true g1
        obtain ⟨L2, m3, z3⟩ : ∃ P, IntKind.u64.wrap (L1 - C) = P ∧ P = L1 - C := ⟨_, by rw [Div.w64]; omega, rfl⟩
        obtain ⟨N2, m4, z4⟩ : ∃ P, IntKind.u64.wrap (N1 + 1) = P ∧ P = N1 + 1 := ⟨_, by rw [Div.w64]; omega, rfl⟩
        have d7 : decide ((9223372036854775807 : Int) < N2) = false := decide_eq_false (by omega)
        have hTT := ST.out.2.1 (by omega)
        have EN : Hid (N2 = ((2 * (a * (b / 2 ^ (k + 1))) / c : Nat) : Int)) := by show N2 = _; rw [hTT.1]; omega
        have EL : Hid (L2 = ((2 * (a * (b / 2 ^ (k + 1))) % c : Nat) : Int)) := by show L2 = _; rw [hTT.2]; omega
        have bN2 : Hid (0 ≤ N2 ∧ N2 ≤ 2305843009213693953) := by show _ ∧ _; omega
        clear g1 hTT z1 z2 z3 z4 hN hL b1 hA2 hCc
        cases hbt : decide (b / 2 ^ k % 2 = 1)
        · have hb0 : b / 2 ^ k % 2 = 0 := by have := of_decide_eq_false hbt; omega
          rw [hbt] at hbit
          have hX := ST.out.2.2.2.2.1 hb0
          have RN : Hid (N2 = ((a * (b / 2 ^ k) / c : Nat) : Int)) := by show N2 = _; rw [hX]; exact EN.out
          have RL : Hid (L2 = ((a * (b / 2 ^ k) % c : Nat) : Int)) := by show L2 = _; rw [hX]; exact EL.out
          clear hbt hb0 hX
          go_wp2
          go_round
          case rel => exact ⟨(k : Int) - 1, k, N2, L2, by rw [QZ.out], ⟨rfl, by have := HJ.out.2; omega⟩, rfl, rfl, RN, RL⟩
          case measure =>
            simp only [intOf]
            rw [QZ.out]
            omega
        · have hb1 : b / 2 ^ k % 2 = 1 := of_decide_eq_true hbt
          rw [hbt] at hbit
          obtain ⟨Q, qQ, zQ⟩ : ∃ P : Int, IntKind.u64.wrap (A.tdiv C) = P ∧ P = ((a / c : Nat) : Int) := ⟨_, by rw [← hA.out, ← hC.out, Div.w64, ← Int.ofNat_tdiv]; have := Nat.div_le_self a c; have := HA.out.1; generalize a / c = y at *; omega, rfl⟩
          obtain ⟨R, qR, zR⟩ : ∃ P : Int, A.tmod C = P ∧ P = ((a % c : Nat) : Int) := ⟨_, by rw [← hA.out, ← hC.out, ← Int.ofNat_tmod], rfl⟩
          have hq1 := Nat.div_le_self a c
          have hr1 := Nat.mod_lt a HA.out.2.2.1
          have hl2 := ST.out.2.2.2.1
          have hX := ST.out.2.2.2.2.2.1 hb1
          have hN2 := EN.out
          have hL2 := EL.out
          have bb := bN2.out
          have hA2 := HA.out
          have hCc := hC.out
          generalize a / c = q' at *
          generalize a % c = r' at *
          generalize 2 * (a * (b / 2 ^ (k + 1))) / c = n2 at *
          generalize 2 * (a * (b / 2 ^ (k + 1))) % c = l2 at *
          obtain ⟨N3, m5, z5⟩ : ∃ P, IntKind.u64.wrap (N2 + Q) = P ∧ P = N2 + Q := ⟨_, by rw [Div.w64]; omega, rfl⟩
          obtain ⟨L3, m6, z6⟩ : ∃ P, IntKind.u64.wrap (L2 + R) = P ∧ P = L2 + R := ⟨_, by rw [Div.w64]; omega, rfl⟩
          by_cases g2 : C ≤ L3
          · have dg2 : decide (C ≤ L3) = true := decide_eq_true g2
            obtain ⟨L4, m7, z7⟩ : ∃ P, IntKind.u64.wrap (L3 - C) = P ∧ P = L3 - C := ⟨_, by rw [Div.w64]; omega, rfl⟩
            obtain ⟨N4, m8, z8⟩ : ∃ P, IntKind.u64.wrap (N3 + 1) = P ∧ P = N3 + 1 := ⟨_, by rw [Div.w64]; omega, rfl⟩
            have hY := hX.1 (by omega)
            have RN : Hid (N4 = ((a * (b / 2 ^ k) / c : Nat) : Int)) := by show N4 = _; rw [hY.1]; omega
            have RL : Hid (L4 = ((a * (b / 2 ^ k) % c : Nat) : Int)) := by show L4 = _; rw [hY.2]; omega
            clear hbt hb1 hX hY g2 z5 z6 z7 z8 hN2 hL2 bb hA2 hCc hq1 hr1 hl2 zQ zR
            go_wp2
            go_round
            case rel => exact ⟨(k : Int) - 1, k, N4, L4, by rw [QZ.out], ⟨rfl, by have := HJ.out.2; omega⟩, rfl, rfl, RN, RL⟩
            case measure =>
              simp only [intOf]
              rw [QZ.out]
              omega
          · have dg2 : decide (C ≤ L3) = false := decide_eq_false g2
            have hY := hX.2 (by omega)
            have RN : Hid (N3 = ((a * (b / 2 ^ k) / c : Nat) : Int)) := by show N3 = _; rw [hY.1]; omega
            have RL : Hid (L3 = ((a * (b / 2 ^ k) % c : Nat) : Int)) := by show L3 = _; rw [hY.2]; omega
            clear hbt hb1 hX hY g2 z5 z6 hN2 hL2 bb hA2 hCc hq1 hr1 hl2 zQ zR
            go_wp2
            go_round
            case rel => exact ⟨(k : Int) - 1, k, N3, L3, by rw [QZ.out], ⟨rfl, by have := HJ.out.2; omega⟩, rfl, rfl, RN, RL⟩
            case measure =>
              simp only [intOf]
              rw [QZ.out]
              omega
      · have dg : decide (C ≤ L1) = false := decide_eq_false g1
        have d7 : decide ((9223372036854775807 : Int) < N1) = false := decide_eq_false (by omega)
        have hTT := ST.out.2.2.1 (by omega)
        have EN : Hid (N1 = ((2 * (a * (b / 2 ^ (k + 1))) / c : Nat) : Int)) := by show N1 = _; rw [hTT.1]; omega
        have EL : Hid (L1 = ((2 * (a * (b / 2 ^ (k + 1))) % c : Nat) : Int)) := by show L1 = _; rw [hTT.2]; omega
        have bN2 : Hid (0 ≤ N1 ∧ N1 ≤ 2305843009213693953) := by show _ ∧ _; omega
        clear g1 hTT z1 z2 hN hL b1 hA2 hCc
        cases hbt : decide (b / 2 ^ k % 2 = 1)
        · have hb0 : b / 2 ^ k % 2 = 0 := by have := of_decide_eq_false hbt; omega
          rw [hbt] at hbit
          have hX := ST.out.2.2.2.2.1 hb0
          have RN : Hid (N1 = ((a * (b / 2 ^ k) / c : Nat) : Int)) := by show N1 = _; rw [hX]; exact EN.out
          have RL : Hid (L1 = ((a * (b / 2 ^ k) % c : Nat) : Int)) := by show L1 = _; rw [hX]; exact EL.out
          clear hbt hb0 hX
          go_wp2
          go_round
          case rel => exact ⟨(k : Int) - 1, k, N1, L1, by rw [QZ.out], ⟨rfl, by have := HJ.out.2; omega⟩, rfl, rfl, RN, RL⟩
          case measure =>
            simp only [intOf]
            rw [QZ.out]
            omega
        · have hb1 : b / 2 ^ k % 2 = 1 := of_decide_eq_true hbt
          rw [hbt] at hbit
          obtain ⟨Q, qQ, zQ⟩ : ∃ P : Int, IntKind.u64.wrap (A.tdiv C) = P ∧ P = ((a / c : Nat) : Int) := ⟨_, by rw [← hA.out, ← hC.out, Div.w64, ← Int.ofNat_tdiv]; have := Nat.div_le_self a c; have := HA.out.1; generalize a / c = y at *; omega, rfl⟩
          obtain ⟨R, qR, zR⟩ : ∃ P : Int, A.tmod C = P ∧ P = ((a % c : Nat) : Int) := ⟨_, by rw [← hA.out, ← hC.out, ← Int.ofNat_tmod], rfl⟩
          have hq1 := Nat.div_le_self a c
          have hr1 := Nat.mod_lt a HA.out.2.2.1
          have hl2 := ST.out.2.2.2.1
          have hX := ST.out.2.2.2.2.2.1 hb1
          have hN2 := EN.out
          have hL2 := EL.out
          have bb := bN2.out
          have hA2 := HA.out
          have hCc := hC.out
          generalize a / c = q' at *
          generalize a % c = r' at *
          generalize 2 * (a * (b / 2 ^ (k + 1))) / c = n2 at *
          generalize 2 * (a * (b / 2 ^ (k + 1))) % c = l2 at *
          obtain ⟨N3, m5, z5⟩ : ∃ P, IntKind.u64.wrap (N1 + Q) = P ∧ P = N1 + Q := ⟨_, by rw [Div.w64]; omega, rfl⟩
          obtain ⟨L3, m6, z6⟩ : ∃ P, IntKind.u64.wrap (L1 + R) = P ∧ P = L1 + R := ⟨_, by rw [Div.w64]; omega, rfl⟩
          by_cases g2 : C ≤ L3
          · have dg2 : decide (C ≤ L3) = true := decide_eq_true g2
            obtain ⟨L4, m7, z7⟩ : ∃ P, IntKind.u64.wrap (L3 - C) = P ∧ P = L3 - C := ⟨_, by rw [Div.w64]; omega, rfl⟩
            obtain ⟨N4, m8, z8⟩ : ∃ P, IntKind.u64.wrap (N3 + 1) = P ∧ P = N3 + 1 := ⟨_, by rw [Div.w64]; omega, rfl⟩
            have hY := hX.1 (by omega)
            have RN : Hid (N4 = ((a * (b / 2 ^ k) / c : Nat) : Int)) := by show N4 = _; rw [hY.1]; omega
            have RL : Hid (L4 = ((a * (b / 2 ^ k) % c : Nat) : Int)) := by show L4 = _; rw [hY.2]; omega
            clear hbt hb1 hX hY g2 z5 z6 z7 z8 hN2 hL2 bb hA2 hCc hq1 hr1 hl2 zQ zR
            go_wp2
            go_round
            case rel => exact ⟨(k : Int) - 1, k, N4, L4, by rw [QZ.out], ⟨rfl, by have := HJ.out.2; omega⟩, rfl, rfl, RN, RL⟩
            case measure =>
              simp only [intOf]
              rw [QZ.out]
              omega
          · have dg2 : decide (C ≤ L3) = false := decide_eq_false g2
            have hY := hX.2 (by omega)
            have RN : Hid (N3 = ((a * (b / 2 ^ k) / c : Nat) : Int)) := by show N3 = _; rw [hY.1]; omega
            have RL : Hid (L3 = ((a * (b / 2 ^ k) % c : Nat) : Int)) := by show L3 = _; rw [hY.2]; omega
            clear hbt hb1 hX hY g2 z5 z6 hN2 hL2 bb hA2 hCc hq1 hr1 hl2 zQ zR
            go_wp2
            go_round
            case rel => exact ⟨(k : Int) - 1, k, N3, L3, by rw [QZ.out], ⟨rfl, by have := HJ.out.2; omega⟩, rfl, rfl, RN, RL⟩
            case measure =>
              simp only [intOf]
              rw [QZ.out]
              omega
end Fee
end Go.Proofs.Ytbfcgaijplhcoaa
