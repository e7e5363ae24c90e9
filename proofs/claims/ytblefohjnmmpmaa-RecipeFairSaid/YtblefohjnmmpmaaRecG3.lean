/- How many runs, how long runs, study and copies take: the package and the reference answer alike. -/
import Derived.Test.YtblefohjnmmpmaaRecG2
namespace Go.Proofs.Ytblefohjnmmpmaa
open Go.RowKit
namespace Rec
set_option maxRecDepth 100000 in
set_option maxHeartbeats 4000000 in
theorem time_any (b : BlueIn) (x y : Int) (w : World) (hb : Came w b) :
    Calls Try.prog 12 #[.agg b.val, .int .i64 x, .int .i64 y] w fun e w' => e = .returned (.tuple #[.int .i64 (timeV b x y).1, .int .i64 (timeV b x y).2]) ∧ Below w.heap.size w w' := by
  have HB := Lib.hid hb
  have HS : Hid (timeV b x y = if ok2 b x 0 10 y 1 1000 then (upI (b.time * y * (100 - 2 * x)) 100, 0) else (0, 1)) := rfl
  have CM : Hid (∀ (W : World) (t : TypeId) (g : Nat), Below w.heap.size w W → g = W.heap.size → Calls Try.prog 24 #[.agg #[.int .i64 b.makes, .int .i64 b.per, .int .i64 b.time, .slice b.addr b.needs.length b.cap, .int .i64 b.copy, .int .i64 b.study, .int .i64 b.most], .slice (some ⟨g, 0, none⟩) 2 2] (W.alloc (.cells #[.int .i64 x, .int .i64 0, .int .i64 10, .int .i64 y, .int .i64 1, .int .i64 1000] t)) fun e w' => e = .returned (.bool (ok2 b x 0 10 y 1 1000)) ∧ Below W.heap.size W w') := fun W t g hW hg => may_two b (x) (0) (10) (y) (1) (1000) W (HB.out.below hW) t g hg
  have HY : Hid (ok2 b x 0 10 y 1 1000 = true → _) := fun h => ok2_yes h
  generalize ok2 b x 0 10 y 1 1000 = M at *
  unfold BlueIn.val
  clear hb
  have hbw := Lib.hid ((Below.refl w.heap.size w).alloc (Nat.le_refl _) (.cells #[.int .i64 b.makes, .int .i64 b.per, .int .i64 b.time, .slice b.addr b.needs.length b.cap, .int .i64 b.copy, .int .i64 b.study, .int .i64 b.most] 24))
  cases M
  · have HV : Hid (timeV b x y = (0, 1)) := HS.out
    generalize timeV b x y = V at *
    go_enter Try.func12, Try.ntmps12
    go_wp2_with (go_at_call 24; ((with_reducible refine (CM.out _ _ _ hbw.out (by simp)).mono ?_); rintro e w1 ⟨rfl, hb1⟩))
    go_ret2
    exact ⟨by rw [HV.out]; rfl, hbw.out.trans (hb1.mono (by simp))⟩
  · have HV : Hid (timeV b x y = (upI (b.time * y * (100 - 2 * x)) 100, 0)) := HS.out
    generalize timeV b x y = V at *
    obtain ⟨hK, ⟨hx1, hx2⟩, hy1, hy2⟩ := HY.out rfl
    obtain ⟨_, _, ⟨hp1, hp2⟩, ⟨ht1, ht2⟩, ⟨hc1, hc2⟩, ⟨hs1, hs2⟩, ⟨hm1, hm2⟩, _⟩ := bchk_ok b 32 hK
    have hP := mul_bd (show 0 ≤ b.time by omega) ht2 (show 0 ≤ y by omega) hy2
    have hQ := mul_bd hP.1 hP.2 (show 0 ≤ 100 - 2 * x by omega) (show 100 - 2 * x ≤ 100 by omega)
    obtain ⟨P1, q1, z1⟩ : ∃ P, wrap64 (b.time * y) = P ∧ P = b.time * y := ⟨_, by generalize b.time * y = P at *; unfold wrap64; omega, rfl⟩
    obtain ⟨P2, q2, z2⟩ : ∃ P, wrap64 (2 * x) = P ∧ P = 2 * x := ⟨_, by unfold wrap64; omega, rfl⟩
    obtain ⟨P3, q3, z3⟩ : ∃ P, wrap64 (100 - P2) = P ∧ P = 100 - 2 * x := ⟨_, by unfold wrap64; omega, rfl⟩
    rw [← z1, ← z3] at hQ HV
    rw [← z1] at hP
    have z3' : 0 ≤ P3 ∧ P3 ≤ 100 := by omega
    have CS : Hid (∀ W : World, Calls Try.prog 25 #[.int .i64 P1, .int .i64 P3, .int .i64 100, .bool true] W fun e w' => e = .returned (.tuple #[.int .i64 (upI (P1 * P3) 100), .int .i64 0]) ∧ Below W.heap.size W w') := fun W => scale_int _ _ 100 hP.1 (by omega) (by omega) (by omega) (by omega) (by generalize P1 * P3 = P at *; omega) W
    generalize upI (P1 * P3) 100 = U at *
    clear hQ hP hy1 hy2 z1 z2 z3 z3'
    clear hK hx1 hx2 hp1 hp2 ht1 ht2 hc1 hc2 hs1 hs2 hm1 hm2
    go_enter Try.func12, Try.ntmps12
    go_wp2_with (first
      | (go_at_call 24; ((with_reducible refine (CM.out _ _ _ hbw.out (by simp)).mono ?_); rintro e w1 ⟨rfl, hb1⟩; have hb1' := hbw.out.trans (hb1.mono (by simp)); have c2 := box_cell hb1 2; simp only [List.getElem?_toArray, List.getElem?_cons_zero, List.getElem?_cons_succ] at c2))
      | (go_at_call 25; ((with_reducible refine (CS.out _).mono ?_); rintro e w2 ⟨rfl, hb2⟩)))
    go_ret2
    exact ⟨by rw [HV.out]; rfl, below2 hb1' hb2⟩
set_option maxRecDepth 100000 in
set_option maxHeartbeats 4000000 in
theorem refTime_any (b : BlueIn) (x y : Int) (w : World) (hb : Came w b) :
    Calls Try.prog 13 #[.agg b.val, .int .i64 x, .int .i64 y] w fun e w' => e = .returned (.tuple #[.int .i64 (timeV b x y).1, .int .i64 (timeV b x y).2]) ∧ Below w.heap.size w w' := by
  have HB := Lib.hid hb
  have HS : Hid (timeV b x y = if (decide (bchk b 32 = 0) && (inB (x, 0, 10) && inB (y, 1, 1000))) then (upI (b.time * y * (100 - 2 * x)) 100, 0) else (0, 1)) := rfl
  have CK : Hid (∀ (W : World), Below w.heap.size w W → Calls Try.prog 16 #[.agg #[.int .i64 b.makes, .int .i64 b.per, .int .i64 b.time, .slice b.addr b.needs.length b.cap, .int .i64 b.copy, .int .i64 b.study, .int .i64 b.most], .int .i64 32] W fun e w' => e = .returned (.int .i64 (bchk b 32)) ∧ Below W.heap.size W w') := fun W hW => refCheck12_any b 32 W (HB.out.below hW)
  have I0 : Hid (∀ W : World, Calls Try.prog 26 #[.int .i64 (x), .int .i64 (0), .int .i64 (10)] W fun e w' => e = .returned (.bool (inB (x, 0, 10))) ∧ W = w') := in_any _ _ _
  have J0 : Hid (inB (x, 0, 10) = true → _) := fun h => inB_ok h
  have I1 : Hid (∀ W : World, Calls Try.prog 26 #[.int .i64 (y), .int .i64 (1), .int .i64 (1000)] W fun e w' => e = .returned (.bool (inB (y, 1, 1000))) ∧ W = w') := in_any _ _ _
  have J1 : Hid (inB (y, 1, 1000) = true → _) := fun h => inB_ok h
  have HK : Hid (bchk b 32 = 0 → _) := fun h => bchk_ok b 32 h
  have H2 : Hid (bchk b 32 = 0 ∨ bchk b 32 = 1) := bchk_two b 32
  generalize bchk b 32 = K at *
  generalize inB (x, 0, 10) = F0 at *
  generalize inB (y, 1, 1000) = F1 at *
  unfold BlueIn.val
  clear hb
  have hbw := Lib.hid ((Below.refl w.heap.size w).alloc (Nat.le_refl _) (.cells #[.int .i64 b.makes, .int .i64 b.per, .int .i64 b.time, .slice b.addr b.needs.length b.cap, .int .i64 b.copy, .int .i64 b.study, .int .i64 b.most] 24))
  rcases H2.out with rfl | rfl
  case inr =>
    have HV : Hid (timeV b x y = (0, 1)) := HS.out
    generalize timeV b x y = V at *
    go_enter Try.func13, Try.ntmps13
    go_wp2_with (first | (go_at_call 16; ((with_reducible refine (CK.out _ hbw.out).mono ?_); rintro e w1 ⟨rfl, hb1⟩; have hb1' := hbw.out.trans (hb1.mono (by simp)); have c2 := box_cell hb1 2; simp only [List.getElem?_toArray, List.getElem?_cons_zero, List.getElem?_cons_succ] at c2)))
    go_ret2
    exact ⟨by rw [HV.out]; rfl, hb1'⟩
  cases F0
  case false =>
    have HV : Hid (timeV b x y = (0, 1)) := HS.out
    generalize timeV b x y = V at *
    go_enter Try.func13, Try.ntmps13
    go_wp2_with (first | (go_at_call 16; ((with_reducible refine (CK.out _ hbw.out).mono ?_); rintro e w1 ⟨rfl, hb1⟩; have hb1' := hbw.out.trans (hb1.mono (by simp)); have c2 := box_cell hb1 2; simp only [List.getElem?_toArray, List.getElem?_cons_zero, List.getElem?_cons_succ] at c2)) | (go_at_call 26; ((first | (with_reducible refine (I0.out _).mono ?_)); rintro e w2 ⟨rfl, rfl⟩)))
    go_ret2
    exact ⟨by rw [HV.out]; rfl, hb1'⟩
  cases F1
  case false =>
    have HV : Hid (timeV b x y = (0, 1)) := HS.out
    generalize timeV b x y = V at *
    go_enter Try.func13, Try.ntmps13
    go_wp2_with (first | (go_at_call 16; ((with_reducible refine (CK.out _ hbw.out).mono ?_); rintro e w1 ⟨rfl, hb1⟩; have hb1' := hbw.out.trans (hb1.mono (by simp)); have c2 := box_cell hb1 2; simp only [List.getElem?_toArray, List.getElem?_cons_zero, List.getElem?_cons_succ] at c2)) | (go_at_call 26; ((first | (with_reducible refine (I0.out _).mono ?_) | (with_reducible refine (I1.out _).mono ?_)); rintro e w2 ⟨rfl, rfl⟩)))
    go_ret2
    exact ⟨by rw [HV.out]; rfl, hb1'⟩
  have HV : Hid (timeV b x y = (upI (b.time * y * (100 - 2 * x)) 100, 0)) := HS.out
  generalize timeV b x y = V at *
  obtain ⟨_, _, ⟨hp1, hp2⟩, ⟨ht1, ht2⟩, ⟨hc1, hc2⟩, ⟨hs1, hs2⟩, ⟨hm1, hm2⟩, _⟩ := HK.out rfl
  obtain ⟨hx1, hx2⟩ := J0.out rfl
  obtain ⟨hy1, hy2⟩ := J1.out rfl
  have hP := mul_bd (show 0 ≤ b.time by omega) ht2 (show 0 ≤ y by omega) hy2
  have hQ := mul_bd hP.1 hP.2 (show 0 ≤ 100 - 2 * x by omega) (show 100 - 2 * x ≤ 100 by omega)
  obtain ⟨P1, q1, z1⟩ : ∃ P, wrap64 (b.time * y) = P ∧ P = b.time * y := ⟨_, by generalize b.time * y = P at *; unfold wrap64; omega, rfl⟩
  obtain ⟨P2, q2, z2⟩ : ∃ P, wrap64 (2 * x) = P ∧ P = 2 * x := ⟨_, by unfold wrap64; omega, rfl⟩
  obtain ⟨P3, q3, z3⟩ : ∃ P, wrap64 (100 - P2) = P ∧ P = 100 - 2 * x := ⟨_, by unfold wrap64; omega, rfl⟩
  rw [← z1, ← z3] at hQ HV
  rw [← z1] at hP
  have z3' : 0 ≤ P3 ∧ P3 ≤ 100 := by omega
  obtain ⟨P4, q4, z4⟩ : ∃ P, wrap64 (P1 * P3) = P ∧ P = P1 * P3 := ⟨_, by generalize P1 * P3 = P at *; unfold wrap64; omega, rfl⟩
  rw [← z4] at hQ HV
  have CS : Hid (∀ W : World, Calls Try.prog 27 #[.int .i64 P4, .int .i64 100] W fun e w' => e = .returned (.int .i64 (upI P4 100)) ∧ W = w') := fun W => up_int _ 100 hQ.1 (by omega) (by omega) (by omega) W
  generalize upI P4 100 = U at *
  clear hQ hP hy1 hy2 z1 z2 z3 z3' z4
  clear hx1 hx2 hp1 hp2 ht1 ht2 hc1 hc2 hs1 hs2 hm1 hm2
  go_enter Try.func13, Try.ntmps13
  go_wp2_with (first | (go_at_call 16; ((with_reducible refine (CK.out _ hbw.out).mono ?_); rintro e w1 ⟨rfl, hb1⟩; have hb1' := hbw.out.trans (hb1.mono (by simp)); have c2 := box_cell hb1 2; simp only [List.getElem?_toArray, List.getElem?_cons_zero, List.getElem?_cons_succ] at c2)) | (go_at_call 26; ((first | (with_reducible refine (I0.out _).mono ?_) | (with_reducible refine (I1.out _).mono ?_)); rintro e w2 ⟨rfl, rfl⟩)) | (go_at_call 27; ((with_reducible refine (CS.out _).mono ?_); rintro e w2 ⟨rfl, rfl⟩)))
  go_ret2
  exact ⟨by rw [HV.out]; rfl, hb1'⟩
end Rec
end Go.Proofs.Ytblefohjnmmpmaa
