/- The walk of RecipeStudies. -/
import Derived.Test.YtblefohjnmmpmaaRecL
namespace Go.Proofs.Ytblefohjnmmpmaa
open Go.RowKit
namespace Rec
set_option maxRecDepth 100000 in
set_option maxHeartbeats 4000000 in
theorem studies_walk (w : World) (v : Value) (b : BlueIn) (hv : IsBlue w v b) (x : Int) (_hx : (Lit.int .i64 x).wf = true) (y : Int) (_hy : (Lit.int .i64 y).wf = true) :
    Calls Try.prog 6 #[v, .int .i64 x, .int .i64 y] w fun e w' => e = .returned (.bool true) ∧ Below w.heap.size w w' := by
  obtain ⟨rfl, hmx, hst, hwf, hwm⟩ := hv
  have hbw := Lib.hid ((Below.refl w.heap.size w).alloc (Nat.le_refl _) (.cells #[.int .i64 b.makes, .int .i64 b.per, .int .i64 b.time, .slice b.addr b.needs.length b.cap, .int .i64 b.copy, .int .i64 b.study, .int .i64 b.most] 24))
  by_cases hlen : b.needs.length ≤ 12
  case neg =>
    have dl : decide ((12 : Int) < (b.needs.length : Int)) = true := decide_eq_true (by omega)
    clear hlen
    unfold BlueIn.val
    go_enter Try.func6, Try.ntmps6
    go_wp2_with (go_at_call 7; ((with_reducible refine (awake_any _).mono ?_); rintro e w1 ⟨rfl, hb1⟩))
    go_ret
    exact ⟨rfl, hbw.out.trans (hb1.mono (by simp))⟩
  have HB : Hid (Came w b) := ⟨hlen, hst, hwf, hwm⟩
  have dl : decide ((12 : Int) < (b.needs.length : Int)) = false := decide_eq_false (by omega)
  clear hst hwf hwm hlen hmx
  have C1 : Hid (∀ W : World, Below w.heap.size w W → Calls Try.prog 18 #[.agg #[.int .i64 b.makes, .int .i64 b.per, .int .i64 b.time, .slice b.addr b.needs.length b.cap, .int .i64 b.copy, .int .i64 b.study, .int .i64 b.most], .int .i64 x, .int .i64 y] W fun e w' => e = .returned (.tuple #[.int .i64 (studyV b x y).1, .int .i64 (studyV b x y).2]) ∧ Below W.heap.size W w') := fun W h => study_any b x y W (HB.out.below h)
  have C2 : Hid (∀ W : World, Below w.heap.size w W → Calls Try.prog 19 #[.agg #[.int .i64 b.makes, .int .i64 b.per, .int .i64 b.time, .slice b.addr b.needs.length b.cap, .int .i64 b.copy, .int .i64 b.study, .int .i64 b.most], .int .i64 x, .int .i64 y] W fun e w' => e = .returned (.tuple #[.int .i64 (studyV b x y).1, .int .i64 (studyV b x y).2]) ∧ Below W.heap.size W w') := fun W h => refStudy_any b x y W (HB.out.below h)
  have C3 : Hid (∀ W : World, Below w.heap.size w W → Calls Try.prog 20 #[.agg #[.int .i64 b.makes, .int .i64 b.per, .int .i64 b.time, .slice b.addr b.needs.length b.cap, .int .i64 b.copy, .int .i64 b.study, .int .i64 b.most], .int .i64 x, .int .i64 y] W fun e w' => e = .returned (.tuple #[.int .i64 (copyV b x y).1, .int .i64 (copyV b x y).2]) ∧ Below W.heap.size W w') := fun W h => copy_any b x y W (HB.out.below h)
  have C4 : Hid (∀ W : World, Below w.heap.size w W → Calls Try.prog 21 #[.agg #[.int .i64 b.makes, .int .i64 b.per, .int .i64 b.time, .slice b.addr b.needs.length b.cap, .int .i64 b.copy, .int .i64 b.study, .int .i64 b.most], .int .i64 x, .int .i64 y] W fun e w' => e = .returned (.tuple #[.int .i64 (copyV b x y).1, .int .i64 (copyV b x y).2]) ∧ Below W.heap.size W w') := fun W h => refCopy_any b x y W (HB.out.below h)
  have C5 : Hid (∀ W : World, Below w.heap.size w W → Calls Try.prog 17 #[.agg #[.int .i64 b.makes, .int .i64 b.per, .int .i64 b.time, .slice b.addr b.needs.length b.cap, .int .i64 b.copy, .int .i64 b.study, .int .i64 b.most], .int .i64 x] W fun e w' => e = .returned (.tuple #[.int .i64 (runsV b x).1, .int .i64 (runsV b x).2]) ∧ Below W.heap.size W w') := fun W h => runs_any b x W (HB.out.below h)
  have C6 : Hid (∀ W : World, Below w.heap.size w W → Calls Try.prog 22 #[.agg #[.int .i64 b.makes, .int .i64 b.per, .int .i64 b.time, .slice b.addr b.needs.length b.cap, .int .i64 b.copy, .int .i64 b.study, .int .i64 b.most], .int .i64 x] W fun e w' => e = .returned (.tuple #[.int .i64 (runsV b x).1, .int .i64 (runsV b x).2]) ∧ Below W.heap.size W w') := fun W h => refRuns_any b x W (HB.out.below h)
  generalize (studyV b x y).1 = VS1 at *
  generalize (studyV b x y).2 = VS2 at *
  generalize (copyV b x y).1 = VC1 at *
  generalize (copyV b x y).2 = VC2 at *
  generalize (runsV b x).1 = VR1 at *
  generalize (runsV b x).2 = VR2 at *
  unfold BlueIn.val
  go_enter Try.func6, Try.ntmps6
  go_wp2_with (first
    | (go_at_call 18; ((with_reducible refine (C1.out _ hbw.out).mono ?_); rintro e w1 ⟨rfl, hb1⟩; have hB1 := Lib.hid (hbw.out.trans (hb1.mono (by simp))); have X1 := Lib.hid (boxed_first hb1); have s1 := Lib.hid (box_lt hb1); obtain ⟨c0, c1, c2, c3, c4, c5, c6⟩ := X1.out))
    | (go_at_call 19; ((with_reducible refine (C2.out _ hB1.out).mono ?_); rintro e w2 ⟨rfl, hb2⟩; have hB2 := Lib.hid (below2 hB1.out hb2); have X2 := Lib.hid (boxed_next hb2 s1.out X1.out); have s2 := Lib.hid (lt_next hb2 s1.out); clear c0 c1 c2 c3 c4 c5 c6; obtain ⟨c0, c1, c2, c3, c4, c5, c6⟩ := X2.out))
    | (go_at_call 20; ((with_reducible refine (C3.out _ hB2.out).mono ?_); rintro e w3 ⟨rfl, hb3⟩; have hB3 := Lib.hid (below2 hB2.out hb3); have X3 := Lib.hid (boxed_next hb3 s2.out X2.out); have s3 := Lib.hid (lt_next hb3 s2.out); clear c0 c1 c2 c3 c4 c5 c6; obtain ⟨c0, c1, c2, c3, c4, c5, c6⟩ := X3.out))
    | (go_at_call 21; ((with_reducible refine (C4.out _ hB3.out).mono ?_); rintro e w4 ⟨rfl, hb4⟩; have hB4 := Lib.hid (below2 hB3.out hb4); have X4 := Lib.hid (boxed_next hb4 s3.out X3.out); have s4 := Lib.hid (lt_next hb4 s3.out); clear c0 c1 c2 c3 c4 c5 c6; obtain ⟨c0, c1, c2, c3, c4, c5, c6⟩ := X4.out))
    | (go_at_call 17; ((with_reducible refine (C5.out _ hB4.out).mono ?_); rintro e w5 ⟨rfl, hb5⟩; have hB5 := Lib.hid (below2 hB4.out hb5); have X5 := Lib.hid (boxed_next hb5 s4.out X4.out); have s5 := Lib.hid (lt_next hb5 s4.out); clear c0 c1 c2 c3 c4 c5 c6; obtain ⟨c0, c1, c2, c3, c4, c5, c6⟩ := X5.out))
    | (go_at_call 22; ((with_reducible refine (C6.out _ hB5.out).mono ?_); rintro e w6 ⟨rfl, hb6⟩; have hB6 := Lib.hid (below2 hB5.out hb6); have X6 := Lib.hid (boxed_next hb6 s5.out X5.out); have s6 := Lib.hid (lt_next hb6 s5.out); clear c0 c1 c2 c3 c4 c5 c6; obtain ⟨c0, c1, c2, c3, c4, c5, c6⟩ := X6.out))
    | (go_at_call 7; ((with_reducible refine (awake_any _).mono ?_); rintro e w7 ⟨rfl, hb7⟩)))
  go_ret
  exact ⟨rfl, below2 hB6.out hb7⟩
end Rec
end Go.Proofs.Ytblefohjnmmpmaa
