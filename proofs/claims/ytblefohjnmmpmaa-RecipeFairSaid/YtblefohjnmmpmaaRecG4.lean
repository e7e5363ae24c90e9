/- How many runs, how long runs, study and copies take: the package and the reference answer alike. -/
import Derived.Test.YtblefohjnmmpmaaRecG2
namespace Go.Proofs.Ytblefohjnmmpmaa
open Go.RowKit
namespace Rec
set_option maxRecDepth 100000 in
set_option maxHeartbeats 4000000 in
theorem copy_any (b : BlueIn) (x y : Int) (w : World) (hb : Came w b) :
    Calls Try.prog 20 #[.agg b.val, .int .i64 x, .int .i64 y] w fun e w' => e = .returned (.tuple #[.int .i64 (copyV b x y).1, .int .i64 (copyV b x y).2]) ∧ Below w.heap.size w w' := by
  have HB := Lib.hid hb
  have HS : Hid (copyV b x y = if ok2 b x 1 10 y 1 b.most then (b.copy * x * y, 0) else (0, 1)) := rfl
  have CM : Hid (∀ (W : World) (t : TypeId) (g : Nat), Below w.heap.size w W → g = W.heap.size → Calls Try.prog 24 #[.agg #[.int .i64 b.makes, .int .i64 b.per, .int .i64 b.time, .slice b.addr b.needs.length b.cap, .int .i64 b.copy, .int .i64 b.study, .int .i64 b.most], .slice (some ⟨g, 0, none⟩) 2 2] (W.alloc (.cells #[.int .i64 x, .int .i64 1, .int .i64 10, .int .i64 y, .int .i64 1, .int .i64 b.most] t)) fun e w' => e = .returned (.bool (ok2 b x 1 10 y 1 b.most)) ∧ Below W.heap.size W w') := fun W t g hW hg => may_two b (x) (1) (10) (y) (1) (b.most) W (HB.out.below hW) t g hg
  have HY : Hid (ok2 b x 1 10 y 1 b.most = true → _) := fun h => ok2_yes h
  generalize ok2 b x 1 10 y 1 b.most = M at *
  unfold BlueIn.val
  clear hb
  have hbw := Lib.hid ((Below.refl w.heap.size w).alloc (Nat.le_refl _) (.cells #[.int .i64 b.makes, .int .i64 b.per, .int .i64 b.time, .slice b.addr b.needs.length b.cap, .int .i64 b.copy, .int .i64 b.study, .int .i64 b.most] 24))
  cases M
  · have HV : Hid (copyV b x y = (0, 1)) := HS.out
    generalize copyV b x y = V at *
    go_enter Try.func20, Try.ntmps20
    go_wp2_with (go_at_call 24; ((with_reducible refine (CM.out _ _ _ hbw.out (by simp)).mono ?_); rintro e w1 ⟨rfl, hb1⟩))
    go_ret2
    exact ⟨by rw [HV.out]; rfl, hbw.out.trans (hb1.mono (by simp))⟩
  · have HV : Hid (copyV b x y = (b.copy * x * y, 0)) := HS.out
    generalize copyV b x y = V at *
    obtain ⟨hK, ⟨hx1, hx2⟩, hy1, hy2⟩ := HY.out rfl
    obtain ⟨_, _, ⟨hp1, hp2⟩, ⟨ht1, ht2⟩, ⟨hc1, hc2⟩, ⟨hs1, hs2⟩, ⟨hm1, hm2⟩, _⟩ := bchk_ok b 32 hK
    have hP := mul_bd hc1 hc2 (show 0 ≤ x by omega) hx2
    have hQ := mul_bd hP.1 hP.2 (show 0 ≤ y by omega) (Int.le_trans hy2 hm2)
    have Q1 : wrap64 (b.copy * x) = b.copy * x := by generalize b.copy * x = P at *; unfold wrap64; omega
    have Q2 : Hid (wrap64 (wrap64 (b.copy * x) * y) = b.copy * x * y) := by
      show wrap64 (wrap64 (b.copy * x) * y) = _
      rw [Q1]
      generalize b.copy * x * y = P at *; unfold wrap64; omega
    clear Q1
    clear hQ hP hy1 hy2
    clear hK hx1 hx2 hp1 hp2 ht1 ht2 hc1 hc2 hs1 hs2 hm1 hm2
    go_enter Try.func20, Try.ntmps20
    go_wp2_with (first
      | (go_at_call 24; ((with_reducible refine (CM.out _ _ _ hbw.out (by simp)).mono ?_); rintro e w1 ⟨rfl, hb1⟩; have hb1' := hbw.out.trans (hb1.mono (by simp)); have c4 := box_cell hb1 4; simp only [List.getElem?_toArray, List.getElem?_cons_zero, List.getElem?_cons_succ] at c4; have c6 := box_cell hb1 6; simp only [List.getElem?_toArray, List.getElem?_cons_zero, List.getElem?_cons_succ] at c6)))
    go_ret2
    exact ⟨by rw [HV.out, ← Q2.out]; rfl, hb1'⟩
set_option maxRecDepth 100000 in
set_option maxHeartbeats 4000000 in
theorem refCopy_any (b : BlueIn) (x y : Int) (w : World) (hb : Came w b) :
    Calls Try.prog 21 #[.agg b.val, .int .i64 x, .int .i64 y] w fun e w' => e = .returned (.tuple #[.int .i64 (copyV b x y).1, .int .i64 (copyV b x y).2]) ∧ Below w.heap.size w w' := by
  have HB := Lib.hid hb
  have HS : Hid (copyV b x y = if (decide (bchk b 32 = 0) && (inB (x, 1, 10) && inB (y, 1, b.most))) then (b.copy * x * y, 0) else (0, 1)) := rfl
  have CK : Hid (∀ (W : World), Below w.heap.size w W → Calls Try.prog 16 #[.agg #[.int .i64 b.makes, .int .i64 b.per, .int .i64 b.time, .slice b.addr b.needs.length b.cap, .int .i64 b.copy, .int .i64 b.study, .int .i64 b.most], .int .i64 32] W fun e w' => e = .returned (.int .i64 (bchk b 32)) ∧ Below W.heap.size W w') := fun W hW => refCheck12_any b 32 W (HB.out.below hW)
  have I0 : Hid (∀ W : World, Calls Try.prog 26 #[.int .i64 (x), .int .i64 (1), .int .i64 (10)] W fun e w' => e = .returned (.bool (inB (x, 1, 10))) ∧ W = w') := in_any _ _ _
  have J0 : Hid (inB (x, 1, 10) = true → _) := fun h => inB_ok h
  have I1 : Hid (∀ W : World, Calls Try.prog 26 #[.int .i64 (y), .int .i64 (1), .int .i64 (b.most)] W fun e w' => e = .returned (.bool (inB (y, 1, b.most))) ∧ W = w') := in_any _ _ _
  have J1 : Hid (inB (y, 1, b.most) = true → _) := fun h => inB_ok h
  have HK : Hid (bchk b 32 = 0 → _) := fun h => bchk_ok b 32 h
  have H2 : Hid (bchk b 32 = 0 ∨ bchk b 32 = 1) := bchk_two b 32
  generalize bchk b 32 = K at *
  generalize inB (x, 1, 10) = F0 at *
  generalize inB (y, 1, b.most) = F1 at *
  unfold BlueIn.val
  clear hb
  have hbw := Lib.hid ((Below.refl w.heap.size w).alloc (Nat.le_refl _) (.cells #[.int .i64 b.makes, .int .i64 b.per, .int .i64 b.time, .slice b.addr b.needs.length b.cap, .int .i64 b.copy, .int .i64 b.study, .int .i64 b.most] 24))
  rcases H2.out with rfl | rfl
  case inr =>
    have HV : Hid (copyV b x y = (0, 1)) := HS.out
    generalize copyV b x y = V at *
    go_enter Try.func21, Try.ntmps21
    go_wp2_with (first | (go_at_call 16; ((with_reducible refine (CK.out _ hbw.out).mono ?_); rintro e w1 ⟨rfl, hb1⟩; have hb1' := hbw.out.trans (hb1.mono (by simp)); have c4 := box_cell hb1 4; simp only [List.getElem?_toArray, List.getElem?_cons_zero, List.getElem?_cons_succ] at c4; have c6 := box_cell hb1 6; simp only [List.getElem?_toArray, List.getElem?_cons_zero, List.getElem?_cons_succ] at c6)))
    go_ret2
    exact ⟨by rw [HV.out]; rfl, hb1'⟩
  cases F0
  case false =>
    have HV : Hid (copyV b x y = (0, 1)) := HS.out
    generalize copyV b x y = V at *
    go_enter Try.func21, Try.ntmps21
    go_wp2_with (first | (go_at_call 16; ((with_reducible refine (CK.out _ hbw.out).mono ?_); rintro e w1 ⟨rfl, hb1⟩; have hb1' := hbw.out.trans (hb1.mono (by simp)); have c4 := box_cell hb1 4; simp only [List.getElem?_toArray, List.getElem?_cons_zero, List.getElem?_cons_succ] at c4; have c6 := box_cell hb1 6; simp only [List.getElem?_toArray, List.getElem?_cons_zero, List.getElem?_cons_succ] at c6)) | (go_at_call 26; ((first | (with_reducible refine (I0.out _).mono ?_)); rintro e w2 ⟨rfl, rfl⟩)))
    go_ret2
    exact ⟨by rw [HV.out]; rfl, hb1'⟩
  cases F1
  case false =>
    have HV : Hid (copyV b x y = (0, 1)) := HS.out
    generalize copyV b x y = V at *
    go_enter Try.func21, Try.ntmps21
    go_wp2_with (first | (go_at_call 16; ((with_reducible refine (CK.out _ hbw.out).mono ?_); rintro e w1 ⟨rfl, hb1⟩; have hb1' := hbw.out.trans (hb1.mono (by simp)); have c4 := box_cell hb1 4; simp only [List.getElem?_toArray, List.getElem?_cons_zero, List.getElem?_cons_succ] at c4; have c6 := box_cell hb1 6; simp only [List.getElem?_toArray, List.getElem?_cons_zero, List.getElem?_cons_succ] at c6)) | (go_at_call 26; ((first | (with_reducible refine (I0.out _).mono ?_) | (with_reducible refine (I1.out _).mono ?_)); rintro e w2 ⟨rfl, rfl⟩)))
    go_ret2
    exact ⟨by rw [HV.out]; rfl, hb1'⟩
  have HV : Hid (copyV b x y = (b.copy * x * y, 0)) := HS.out
  generalize copyV b x y = V at *
  obtain ⟨_, _, ⟨hp1, hp2⟩, ⟨ht1, ht2⟩, ⟨hc1, hc2⟩, ⟨hs1, hs2⟩, ⟨hm1, hm2⟩, _⟩ := HK.out rfl
  obtain ⟨hx1, hx2⟩ := J0.out rfl
  obtain ⟨hy1, hy2⟩ := J1.out rfl
  have hP := mul_bd hc1 hc2 (show 0 ≤ x by omega) hx2
  have hQ := mul_bd hP.1 hP.2 (show 0 ≤ y by omega) (Int.le_trans hy2 hm2)
  have Q1 : wrap64 (b.copy * x) = b.copy * x := by generalize b.copy * x = P at *; unfold wrap64; omega
  have Q2 : Hid (wrap64 (wrap64 (b.copy * x) * y) = b.copy * x * y) := by
    show wrap64 (wrap64 (b.copy * x) * y) = _
    rw [Q1]
    generalize b.copy * x * y = P at *; unfold wrap64; omega
  clear Q1
  clear hQ hP hy1 hy2
  clear hx1 hx2 hp1 hp2 ht1 ht2 hc1 hc2 hs1 hs2 hm1 hm2
  go_enter Try.func21, Try.ntmps21
  go_wp2_with (first | (go_at_call 16; ((with_reducible refine (CK.out _ hbw.out).mono ?_); rintro e w1 ⟨rfl, hb1⟩; have hb1' := hbw.out.trans (hb1.mono (by simp)); have c4 := box_cell hb1 4; simp only [List.getElem?_toArray, List.getElem?_cons_zero, List.getElem?_cons_succ] at c4; have c6 := box_cell hb1 6; simp only [List.getElem?_toArray, List.getElem?_cons_zero, List.getElem?_cons_succ] at c6)) | (go_at_call 26; ((first | (with_reducible refine (I0.out _).mono ?_) | (with_reducible refine (I1.out _).mono ?_)); rintro e w2 ⟨rfl, rfl⟩)))
  go_ret2
  exact ⟨by rw [HV.out, ← Q2.out]; rfl, hb1'⟩
end Rec
end Go.Proofs.Ytblefohjnmmpmaa
