/- How many runs, how long runs, study and copies take: the package and the reference answer alike. -/
import Derived.Test.YtblefohjnmmpmaaRecG
namespace Go.Proofs.Ytblefohjnmmpmaa
open Go.RowKit
namespace Rec
def ok1 (b : BlueIn) (n f t : Int) : Bool := decide (bchk b 32 = 0) && inB (n, f, t)
def ok2 (b : BlueIn) (n f t m g u : Int) : Bool := decide (bchk b 32 = 0) && (inB (n, f, t) && inB (m, g, u))
theorem ok1_yes {b : BlueIn} {n f t : Int} (h : ok1 b n f t = true) : bchk b 32 = 0 ∧ f ≤ n ∧ n ≤ t := by
  unfold ok1 at h
  rw [Bool.and_eq_true, decide_eq_true_eq] at h
  exact ⟨h.1, inB_ok h.2⟩
theorem ok2_yes {b : BlueIn} {n f t m g u : Int} (h : ok2 b n f t m g u = true) : bchk b 32 = 0 ∧ (f ≤ n ∧ n ≤ t) ∧ g ≤ m ∧ m ≤ u := by
  unfold ok2 at h
  rw [Bool.and_eq_true, Bool.and_eq_true, decide_eq_true_eq] at h
  exact ⟨h.1, inB_ok h.2.1, inB_ok h.2.2⟩
def runsV (b : BlueIn) (n : Int) : Int × Int := if ok1 b n 0 1125899906842624 then (upI n b.per, 0) else (0, 1)
def timeV (b : BlueIn) (x y : Int) : Int × Int := if ok2 b x 0 10 y 1 1000 then (upI (b.time * y * (100 - 2 * x)) 100, 0) else (0, 1)
def copyV (b : BlueIn) (x y : Int) : Int × Int := if ok2 b x 1 10 y 1 b.most then (b.copy * x * y, 0) else (0, 1)
def studyV (b : BlueIn) (x y : Int) : Int × Int := if ok2 b x 0 10 y 1 (wrap64 (10 - x)) then (b.study * ((x + y) * (x + y + 1) - x * (x + 1)) / 2, 0) else (0, 1)
def bval7 (b : BlueIn) : Value := .agg #[.int .i64 b.makes, .int .i64 b.per, .int .i64 b.time, .slice b.addr b.needs.length b.cap, .int .i64 b.copy, .int .i64 b.study, .int .i64 b.most]
set_option maxRecDepth 100000 in
set_option maxHeartbeats 4000000 in
theorem runs_any (b : BlueIn) (x : Int) (w : World) (hb : Came w b) :
    Calls Try.prog 17 #[.agg b.val, .int .i64 x] w fun e w' => e = .returned (.tuple #[.int .i64 (runsV b x).1, .int .i64 (runsV b x).2]) ∧ Below w.heap.size w w' := by
  have HB := Lib.hid hb
  have HS : Hid (runsV b x = if ok1 b x 0 1125899906842624 then (upI x b.per, 0) else (0, 1)) := rfl
  have CM : Hid (∀ (W : World) (t : TypeId) (g : Nat), Below w.heap.size w W → g = W.heap.size → Calls Try.prog 24 #[.agg #[.int .i64 b.makes, .int .i64 b.per, .int .i64 b.time, .slice b.addr b.needs.length b.cap, .int .i64 b.copy, .int .i64 b.study, .int .i64 b.most], .slice (some ⟨g, 0, none⟩) 1 1] (W.alloc (.cells #[.int .i64 x, .int .i64 0, .int .i64 1125899906842624] t)) fun e w' => e = .returned (.bool (ok1 b x 0 1125899906842624)) ∧ Below W.heap.size W w') := fun W t g hW hg => may_one b (x) (0) (1125899906842624) W (HB.out.below hW) t g hg
  have HY : Hid (ok1 b x 0 1125899906842624 = true → _) := fun h => ok1_yes h
  generalize ok1 b x 0 1125899906842624 = M at *
  unfold BlueIn.val
  clear hb
  have hbw := Lib.hid ((Below.refl w.heap.size w).alloc (Nat.le_refl _) (.cells #[.int .i64 b.makes, .int .i64 b.per, .int .i64 b.time, .slice b.addr b.needs.length b.cap, .int .i64 b.copy, .int .i64 b.study, .int .i64 b.most] 24))
  cases M
  · have HV : Hid (runsV b x = (0, 1)) := HS.out
    generalize runsV b x = V at *
    go_enter Try.func17, Try.ntmps17
    go_wp2_with (go_at_call 24; ((with_reducible refine (CM.out _ _ _ hbw.out (by simp)).mono ?_); rintro e w1 ⟨rfl, hb1⟩))
    go_ret2
    exact ⟨by rw [HV.out]; rfl, hbw.out.trans (hb1.mono (by simp))⟩
  · have HV : Hid (runsV b x = (upI x b.per, 0)) := HS.out
    generalize runsV b x = V at *
    obtain ⟨hK, hx1, hx2⟩ := HY.out rfl
    obtain ⟨_, _, ⟨hp1, hp2⟩, ⟨ht1, ht2⟩, ⟨hc1, hc2⟩, ⟨hs1, hs2⟩, ⟨hm1, hm2⟩, _⟩ := bchk_ok b 32 hK
    have CS : Hid (∀ W : World, Calls Try.prog 25 #[.int .i64 x, .int .i64 1, .int .i64 b.per, .bool true] W fun e w' => e = .returned (.tuple #[.int .i64 (upI x b.per), .int .i64 0]) ∧ Below W.heap.size W w') := fun W => by
      have := scale_int x 1 b.per hx1 (by omega) (by omega) (by omega) hp1 (by omega) W
      rwa [Int.mul_one] at this
    generalize upI x b.per = U at *
    clear hK hx1 hx2 hp1 hp2 ht1 ht2 hc1 hc2 hs1 hs2 hm1 hm2
    go_enter Try.func17, Try.ntmps17
    go_wp2_with (first
      | (go_at_call 24; ((with_reducible refine (CM.out _ _ _ hbw.out (by simp)).mono ?_); rintro e w1 ⟨rfl, hb1⟩; have hb1' := hbw.out.trans (hb1.mono (by simp)); have c1 := box_cell hb1 1; simp only [List.getElem?_toArray, List.getElem?_cons_zero, List.getElem?_cons_succ] at c1))
      | (go_at_call 25; ((with_reducible refine (CS.out _).mono ?_); rintro e w2 ⟨rfl, hb2⟩)))
    go_ret2
    exact ⟨by rw [HV.out]; rfl, below2 hb1' hb2⟩
set_option maxRecDepth 100000 in
set_option maxHeartbeats 4000000 in
theorem refRuns_any (b : BlueIn) (x : Int) (w : World) (hb : Came w b) :
    Calls Try.prog 22 #[.agg b.val, .int .i64 x] w fun e w' => e = .returned (.tuple #[.int .i64 (runsV b x).1, .int .i64 (runsV b x).2]) ∧ Below w.heap.size w w' := by
  have HB := Lib.hid hb
  have HS : Hid (runsV b x = if (decide (bchk b 32 = 0) && inB (x, 0, 1125899906842624)) then (upI x b.per, 0) else (0, 1)) := rfl
  have CK : Hid (∀ (W : World), Below w.heap.size w W → Calls Try.prog 16 #[.agg #[.int .i64 b.makes, .int .i64 b.per, .int .i64 b.time, .slice b.addr b.needs.length b.cap, .int .i64 b.copy, .int .i64 b.study, .int .i64 b.most], .int .i64 32] W fun e w' => e = .returned (.int .i64 (bchk b 32)) ∧ Below W.heap.size W w') := fun W hW => refCheck12_any b 32 W (HB.out.below hW)
  have I0 : Hid (∀ W : World, Calls Try.prog 26 #[.int .i64 (x), .int .i64 (0), .int .i64 (1125899906842624)] W fun e w' => e = .returned (.bool (inB (x, 0, 1125899906842624))) ∧ W = w') := in_any _ _ _
  have J0 : Hid (inB (x, 0, 1125899906842624) = true → _) := fun h => inB_ok h
  have HK : Hid (bchk b 32 = 0 → _) := fun h => bchk_ok b 32 h
  have H2 : Hid (bchk b 32 = 0 ∨ bchk b 32 = 1) := bchk_two b 32
  generalize bchk b 32 = K at *
  generalize inB (x, 0, 1125899906842624) = F0 at *
  unfold BlueIn.val
  clear hb
  have hbw := Lib.hid ((Below.refl w.heap.size w).alloc (Nat.le_refl _) (.cells #[.int .i64 b.makes, .int .i64 b.per, .int .i64 b.time, .slice b.addr b.needs.length b.cap, .int .i64 b.copy, .int .i64 b.study, .int .i64 b.most] 24))
  rcases H2.out with rfl | rfl
  case inr =>
    have HV : Hid (runsV b x = (0, 1)) := HS.out
    generalize runsV b x = V at *
    go_enter Try.func22, Try.ntmps22
    go_wp2_with (first | (go_at_call 16; ((with_reducible refine (CK.out _ hbw.out).mono ?_); rintro e w1 ⟨rfl, hb1⟩; have hb1' := hbw.out.trans (hb1.mono (by simp)); have c1 := box_cell hb1 1; simp only [List.getElem?_toArray, List.getElem?_cons_zero, List.getElem?_cons_succ] at c1)))
    go_ret2
    exact ⟨by rw [HV.out]; rfl, hb1'⟩
  cases F0
  case false =>
    have HV : Hid (runsV b x = (0, 1)) := HS.out
    generalize runsV b x = V at *
    go_enter Try.func22, Try.ntmps22
    go_wp2_with (first | (go_at_call 16; ((with_reducible refine (CK.out _ hbw.out).mono ?_); rintro e w1 ⟨rfl, hb1⟩; have hb1' := hbw.out.trans (hb1.mono (by simp)); have c1 := box_cell hb1 1; simp only [List.getElem?_toArray, List.getElem?_cons_zero, List.getElem?_cons_succ] at c1)) | (go_at_call 26; ((first | (with_reducible refine (I0.out _).mono ?_)); rintro e w2 ⟨rfl, rfl⟩)))
    go_ret2
    exact ⟨by rw [HV.out]; rfl, hb1'⟩
  have HV : Hid (runsV b x = (upI x b.per, 0)) := HS.out
  generalize runsV b x = V at *
  obtain ⟨_, _, ⟨hp1, hp2⟩, ⟨ht1, ht2⟩, ⟨hc1, hc2⟩, ⟨hs1, hs2⟩, ⟨hm1, hm2⟩, _⟩ := HK.out rfl
  obtain ⟨hx1, hx2⟩ := J0.out rfl
  have CS : Hid (∀ W : World, Calls Try.prog 27 #[.int .i64 x, .int .i64 b.per] W fun e w' => e = .returned (.int .i64 (upI x b.per)) ∧ W = w') := fun W => up_int x b.per hx1 (by omega) hp1 (by omega) W
  generalize upI x b.per = U at *
  clear hx1 hx2 hp1 hp2 ht1 ht2 hc1 hc2 hs1 hs2 hm1 hm2
  go_enter Try.func22, Try.ntmps22
  go_wp2_with (first | (go_at_call 16; ((with_reducible refine (CK.out _ hbw.out).mono ?_); rintro e w1 ⟨rfl, hb1⟩; have hb1' := hbw.out.trans (hb1.mono (by simp)); have c1 := box_cell hb1 1; simp only [List.getElem?_toArray, List.getElem?_cons_zero, List.getElem?_cons_succ] at c1)) | (go_at_call 26; ((first | (with_reducible refine (I0.out _).mono ?_)); rintro e w2 ⟨rfl, rfl⟩)) | (go_at_call 27; ((with_reducible refine (CS.out _).mono ?_); rintro e w2 ⟨rfl, rfl⟩)))
  go_ret2
  exact ⟨by rw [HV.out]; rfl, hb1'⟩
end Rec
end Go.Proofs.Ytblefohjnmmpmaa
