/- Study, by the reference. -/
import Derived.Test.YtblefohjnmmpmaaRecG5
namespace Go.Proofs.Ytblefohjnmmpmaa
open Go.RowKit
namespace Rec
set_option maxRecDepth 100000 in
set_option maxHeartbeats 4000000 in
theorem refStudy_any (b : BlueIn) (x y : Int) (w : World) (hb : Came w b) :
    Calls Try.prog 19 #[.agg b.val, .int .i64 x, .int .i64 y] w fun e w' => e = .returned (.tuple #[.int .i64 (studyV b x y).1, .int .i64 (studyV b x y).2]) ∧ Below w.heap.size w w' := by
  have HB := Lib.hid hb
  have HS : Hid (studyV b x y = if (decide (bchk b 32 = 0) && (inB (x, 0, 10) && inB (y, 1, (wrap64 (10 - x))))) then (b.study * ((x + y) * (x + y + 1) - x * (x + 1)) / 2, 0) else (0, 1)) := rfl
  have CK : Hid (∀ (W : World), Below w.heap.size w W → Calls Try.prog 16 #[.agg #[.int .i64 b.makes, .int .i64 b.per, .int .i64 b.time, .slice b.addr b.needs.length b.cap, .int .i64 b.copy, .int .i64 b.study, .int .i64 b.most], .int .i64 32] W fun e w' => e = .returned (.int .i64 (bchk b 32)) ∧ Below W.heap.size W w') := fun W hW => refCheck12_any b 32 W (HB.out.below hW)
  have I0 : Hid (∀ W : World, Calls Try.prog 26 #[.int .i64 (x), .int .i64 (0), .int .i64 (10)] W fun e w' => e = .returned (.bool (inB (x, 0, 10))) ∧ W = w') := in_any _ _ _
  have J0 : Hid (inB (x, 0, 10) = true → _) := fun h => inB_ok h
  have I1 : Hid (∀ W : World, Calls Try.prog 26 #[.int .i64 (y), .int .i64 (1), .int .i64 ((wrap64 (10 - x)))] W fun e w' => e = .returned (.bool (inB (y, 1, (wrap64 (10 - x))))) ∧ W = w') := in_any _ _ _
  have J1 : Hid (inB (y, 1, (wrap64 (10 - x))) = true → _) := fun h => inB_ok h
  have HK : Hid (bchk b 32 = 0 → _) := fun h => bchk_ok b 32 h
  have H2 : Hid (bchk b 32 = 0 ∨ bchk b 32 = 1) := bchk_two b 32
  generalize bchk b 32 = K at *
  generalize inB (x, 0, 10) = F0 at *
  generalize inB (y, 1, (wrap64 (10 - x))) = F1 at *
  unfold BlueIn.val
  clear hb
  have hbw := Lib.hid ((Below.refl w.heap.size w).alloc (Nat.le_refl _) (.cells #[.int .i64 b.makes, .int .i64 b.per, .int .i64 b.time, .slice b.addr b.needs.length b.cap, .int .i64 b.copy, .int .i64 b.study, .int .i64 b.most] 24))
  rcases H2.out with rfl | rfl
  case inr =>
    have HV : Hid (studyV b x y = (0, 1)) := HS.out
    generalize studyV b x y = V at *
    go_enter Try.func19, Try.ntmps19
    go_wp2_with (first | (go_at_call 16; ((with_reducible refine (CK.out _ hbw.out).mono ?_); rintro e w1 ⟨rfl, hb1⟩; have hb1' := hbw.out.trans (hb1.mono (by simp)); have c5 := box_cell hb1 5; simp only [List.getElem?_toArray, List.getElem?_cons_zero, List.getElem?_cons_succ] at c5)))
    go_ret2
    exact ⟨by rw [HV.out]; rfl, hb1'⟩
  cases F0
  case false =>
    have HV : Hid (studyV b x y = (0, 1)) := HS.out
    generalize studyV b x y = V at *
    go_enter Try.func19, Try.ntmps19
    go_wp2_with (first | (go_at_call 16; ((with_reducible refine (CK.out _ hbw.out).mono ?_); rintro e w1 ⟨rfl, hb1⟩; have hb1' := hbw.out.trans (hb1.mono (by simp)); have c5 := box_cell hb1 5; simp only [List.getElem?_toArray, List.getElem?_cons_zero, List.getElem?_cons_succ] at c5)) | (go_at_call 26; ((first | (with_reducible refine (I0.out _).mono ?_)); rintro e w2 ⟨rfl, rfl⟩)))
    go_ret2
    exact ⟨by rw [HV.out]; rfl, hb1'⟩
  cases F1
  case false =>
    have HV : Hid (studyV b x y = (0, 1)) := HS.out
    generalize studyV b x y = V at *
    go_enter Try.func19, Try.ntmps19
    go_wp2_with (first | (go_at_call 16; ((with_reducible refine (CK.out _ hbw.out).mono ?_); rintro e w1 ⟨rfl, hb1⟩; have hb1' := hbw.out.trans (hb1.mono (by simp)); have c5 := box_cell hb1 5; simp only [List.getElem?_toArray, List.getElem?_cons_zero, List.getElem?_cons_succ] at c5)) | (go_at_call 26; ((first | (with_reducible refine (I0.out _).mono ?_) | (with_reducible refine (I1.out _).mono ?_)); rintro e w2 ⟨rfl, rfl⟩)))
    go_ret2
    exact ⟨by rw [HV.out]; rfl, hb1'⟩
  have HV : Hid (studyV b x y = (b.study * ((x + y) * (x + y + 1) - x * (x + 1)) / 2, 0)) := HS.out
  generalize studyV b x y = V at *
  obtain ⟨_, _, ⟨hp1, hp2⟩, ⟨ht1, ht2⟩, ⟨hc1, hc2⟩, ⟨hs1, hs2⟩, ⟨hm1, hm2⟩, _⟩ := HK.out rfl
  obtain ⟨hx1, hx2⟩ := J0.out rfl
  obtain ⟨hy1, hy2⟩ := J1.out rfl
  have hw : wrap64 (10 - x) = 10 - x := by unfold wrap64; omega
  have hHV : Hid (V = (b.study * sT x y.toNat, 0)) := by
    show V = _
    rw [HV.out, study_eq x y b.study (by omega)]
  have hY : Hid (0 ≤ x ∧ x ≤ 10 ∧ 1 ≤ y ∧ x + y ≤ 10 ∧ 0 ≤ b.study ∧ b.study ≤ 1048576) := by show _ ∧ _; omega
  clear hw hy1 hy2
  clear hx1 hx2 hp1 hp2 ht1 ht2 hc1 hc2 hs1 hs2 hm1 hm2
  go_enter Try.func19, Try.ntmps19
  go_wp2_with (first | (go_at_call 16; ((with_reducible refine (CK.out _ hbw.out).mono ?_); rintro e w1 ⟨rfl, hb1⟩; have hb1' := hbw.out.trans (hb1.mono (by simp)); have c5 := box_cell hb1 5; simp only [List.getElem?_toArray, List.getElem?_cons_zero, List.getElem?_cons_succ] at c5)) | (go_at_call 26; ((first | (with_reducible refine (I0.out _).mono ?_) | (with_reducible refine (I1.out _).mono ?_)); rintro e w2 ⟨rfl, rfl⟩)))
  go_loop [8, 9] (fun n i => ∃ j : Int, 1 ≤ j ∧ j ≤ y + 1 ∧ i = .int .i64 j ∧ n = .int .i64 (b.study * sT x (j.toNat - 1))) (fun _ i => (y + 1 - intOf i).toNat)
  case atStart => exact ⟨1, by omega, by have := hY.out; omega, rfl, by simp [sT]⟩
  case round =>
    obtain ⟨j, hj1, hj2, rfl, rfl⟩ := hrel
    obtain ⟨hx1, hx2, hy1, hy2, hs1, hs2⟩ := hY.out
    by_cases hlt : j ≤ y
    · have dl : decide (j ≤ y) = true := decide_eq_true hlt
      have hb0 := sT_bd x (j.toNat - 1) hx1 hx2 (by omega)
      have m1 := mul_bd hs1 hs2 hb0.1 hb0.2
      have m2 := mul_bd hs1 hs2 (show 0 ≤ x + j by omega) (show x + j ≤ 10 by omega)
      have hT : sT x ((j + 1).toNat - 1) = sT x (j.toNat - 1) + (x + j) := by
        rw [show ((j + 1).toNat - 1) = (j.toNat - 1) + 1 by omega, sT]
        omega
      have Q2 : Hid (wrap64 (b.study * sT x (j.toNat - 1) + wrap64 (b.study * wrap64 (x + j))) = b.study * sT x ((j + 1).toNat - 1)) := by
        show wrap64 (b.study * sT x (j.toNat - 1) + wrap64 (b.study * wrap64 (x + j))) = _
        have e1 : wrap64 (x + j) = x + j := by unfold wrap64; omega
        rw [e1, hT]
        have e2 : wrap64 (b.study * (x + j)) = b.study * (x + j) := by generalize b.study * (x + j) = P at *; unfold wrap64; omega
        rw [e2, Int.mul_add b.study (sT x _)]
        generalize b.study * (x + j) = P at *
        generalize b.study * sT x (j.toNat - 1) = R at *
        unfold wrap64; omega
      have hk2 : Hid (wrap64 (j + 1) = j + 1) := by show wrap64 (j + 1) = _; unfold wrap64; omega
      clear hb0 m1 m2 hT hx1 hx2 hy1 hy2 hs1 hs2
      go_wp2
      go_round
      case rel => exact ⟨j + 1, by omega, by omega, by rw [hk2.out], by rw [Q2.out]⟩
      case measure =>
        simp only [intOf]
        rw [hk2.out]
        omega
    · have dl : decide (j ≤ y) = false := decide_eq_false hlt
      have hk2 : Hid ((j.toNat - 1) = y.toNat) := by show (j.toNat - 1) = y.toNat; omega
      clear hx1 hx2 hy1 hy2 hs1 hs2
      go_wp2
      go_ret2
      exact ⟨by rw [hHV.out, ← hk2.out]; rfl, hb1'⟩
end Rec
end Go.Proofs.Ytblefohjnmmpmaa
