/- How many runs, how long runs, study and copies take: the package and the reference answer alike. -/
import Derived.Test.YtblefohjnmmpmaaRecG2
import Derived.Handy
namespace Go.Proofs.Ytblefohjnmmpmaa
open Go.RowKit
namespace Rec
def makesV (b : BlueIn) (x : Int) : Stk × Int := if ok1 b x 1 1000 then ((b.makes, b.per * x), 0) else ((0, 0), 1)
theorem box2_fst {w w1 : World} {cs ds : Array Value} {t u : TypeId} (h : Below ((w.alloc (.cells cs t)).alloc (.cells ds u)).heap.size ((w.alloc (.cells cs t)).alloc (.cells ds u)) w1) (i : Nat) : w1.cell? ⟨w.heap.size, i, none⟩ = cs[i]? := by
  refine (h.cell (by simp; omega)).trans ?_
  go_simp
theorem box2_snd {w w1 : World} {cs ds : Array Value} {t u : TypeId} (h : Below ((w.alloc (.cells cs t)).alloc (.cells ds u)).heap.size ((w.alloc (.cells cs t)).alloc (.cells ds u)) w1) (i : Nat) : w1.cell? ⟨w.heap.size + 1, i, none⟩ = ds[i]? := by
  refine (h.cell (by simp)).trans ?_
  go_simp
theorem box2_frz {w w1 : World} {cs ds : Array Value} {t u : TypeId} (h : Below ((w.alloc (.cells cs t)).alloc (.cells ds u)).heap.size ((w.alloc (.cells cs t)).alloc (.cells ds u)) w1) (i : Nat) : w1.frozen? ⟨w.heap.size + 1, i, none⟩ = false := by
  refine (h.frozen (by simp)).trans ?_
  go_simp
theorem box2_lt {w w1 : World} {cs ds : Array Value} {t u : TypeId} (h : Below ((w.alloc (.cells cs t)).alloc (.cells ds u)).heap.size ((w.alloc (.cells cs t)).alloc (.cells ds u)) w1) : w.heap.size + 1 < w1.heap.size := by
  have := h.size
  simp at this
  omega
set_option maxRecDepth 100000 in
set_option maxHeartbeats 4000000 in
theorem makes_any (b : BlueIn) (x : Int) (w : World) (hb : Came w b) :
    Calls Try.prog 10 #[.agg b.val, .int .i64 x] w fun e w' => e = .returned (.tuple #[.agg #[.int .i64 (makesV b x).1.1, .int .i64 (makesV b x).1.2], .int .i64 (makesV b x).2]) ∧ Below w.heap.size w w' := by
  have HB := Lib.hid hb
  have HS : Hid (makesV b x = if ok1 b x 1 1000 then ((b.makes, b.per * x), 0) else ((0, 0), 1)) := rfl
  have CM : Hid (∀ (W : World) (t : TypeId) (g : Nat), Below w.heap.size w W → g = W.heap.size → Calls Try.prog 24 #[.agg #[.int .i64 b.makes, .int .i64 b.per, .int .i64 b.time, .slice b.addr b.needs.length b.cap, .int .i64 b.copy, .int .i64 b.study, .int .i64 b.most], .slice (some ⟨g, 0, none⟩) 1 1] (W.alloc (.cells #[.int .i64 x, .int .i64 1, .int .i64 1000] t)) fun e w' => e = .returned (.bool (ok1 b x 1 1000)) ∧ Below W.heap.size W w') := fun W t g hW hg => may_one b x 1 1000 W (HB.out.below hW) t g hg
  have HY : Hid (ok1 b x 1 1000 = true → _) := fun h => ok1_yes h
  generalize ok1 b x 1 1000 = M at *
  unfold BlueIn.val
  clear hb
  have hbw := Lib.hid (((Below.refl w.heap.size w).alloc (Nat.le_refl _) (.cells #[.int .i64 b.makes, .int .i64 b.per, .int .i64 b.time, .slice b.addr b.needs.length b.cap, .int .i64 b.copy, .int .i64 b.study, .int .i64 b.most] 24)).alloc (by simp) (.cells #[.int .i64 0, .int .i64 0] 30))
  cases M
  · have HV : Hid (makesV b x = ((0, 0), 1)) := HS.out
    generalize makesV b x = V at *
    go_enter Try.func10, Try.ntmps10
    go_wp2_with (go_at_call 24; ((with_reducible refine (CM.out _ _ _ hbw.out (by simp)).mono ?_); rintro e w1 ⟨rfl, hb1⟩; have hb1' := hbw.out.trans (hb1.mono (by simp; omega)); have c0 := box2_fst hb1 0; have c1 := box2_fst hb1 1; have f0 := box2_frz hb1 0; have f1 := box2_frz hb1 1; have r0 := box2_snd hb1 0; have r1 := box2_snd hb1 1; simp only [List.getElem?_toArray, List.getElem?_cons_zero, List.getElem?_cons_succ] at c0 c1 r0 r1; have s1 := Lib.hid (box2_lt hb1)))
    have e0 : (w1.setCell ⟨w.heap.size + 1, 0, none⟩ (.int .i64 0)).cell? ⟨w.heap.size + 1, 0, none⟩ = some (.int .i64 0) := World.cell?_setCell_same _ _ _ r0
    have e1 : ((w1.setCell ⟨w.heap.size + 1, 0, none⟩ (.int .i64 0)).setCell ⟨w.heap.size + 1, 1, none⟩ (.int .i64 0)).cell? ⟨w.heap.size + 1, 1, none⟩ = some (.int .i64 0) := World.cell?_setCell_same _ _ _ ((World.cell?_setCell_other _ _ _ _ (by simp)).trans r1)
    refine bodyPost_ret (by simp [results, Try.results10, go_sem, e0, e1]; rfl) rfl ?_
    exact ⟨by rw [HV.out], (hb1'.setCell (Nat.le_succ _) _).setCell (Nat.le_succ _) _⟩
  · have HV : Hid (makesV b x = ((b.makes, b.per * x), 0)) := HS.out
    generalize makesV b x = V at *
    obtain ⟨hK, hx1, hx2⟩ := HY.out rfl
    obtain ⟨_, _, ⟨hp1, hp2⟩, _⟩ := bchk_ok b 32 hK
    have Q2 : Hid (wrap64 (b.per * x) = b.per * x) := by
      show wrap64 (b.per * x) = _
      have hP := mul_bd (show 0 ≤ b.per by omega) hp2 (show 0 ≤ x by omega) hx2
      generalize b.per * x = P at *; unfold wrap64; omega
    clear hK hx1 hx2 hp1 hp2
    go_enter Try.func10, Try.ntmps10
    go_wp2_with (go_at_call 24; ((with_reducible refine (CM.out _ _ _ hbw.out (by simp)).mono ?_); rintro e w1 ⟨rfl, hb1⟩; have hb1' := hbw.out.trans (hb1.mono (by simp; omega)); have c0 := box2_fst hb1 0; have c1 := box2_fst hb1 1; have f0 := box2_frz hb1 0; have f1 := box2_frz hb1 1; have r0 := box2_snd hb1 0; have r1 := box2_snd hb1 1; simp only [List.getElem?_toArray, List.getElem?_cons_zero, List.getElem?_cons_succ] at c0 c1 r0 r1; have s1 := Lib.hid (box2_lt hb1)))
    have e0 : (w1.setCell ⟨w.heap.size + 1, 0, none⟩ (.int .i64 b.makes)).cell? ⟨w.heap.size + 1, 0, none⟩ = some (.int .i64 b.makes) := World.cell?_setCell_same _ _ _ r0
    have e1 : ((w1.setCell ⟨w.heap.size + 1, 0, none⟩ (.int .i64 b.makes)).setCell ⟨w.heap.size + 1, 1, none⟩ (.int .i64 (wrap64 (b.per * x)))).cell? ⟨w.heap.size + 1, 1, none⟩ = some (.int .i64 (wrap64 (b.per * x))) := World.cell?_setCell_same _ _ _ ((World.cell?_setCell_other _ _ _ _ (by simp)).trans r1)
    refine bodyPost_ret (by simp [results, Try.results10, go_sem, e0, e1]; rfl) rfl ?_
    exact ⟨by rw [HV.out, Q2.out], (hb1'.setCell (Nat.le_succ _) _).setCell (Nat.le_succ _) _⟩
end Rec
end Go.Proofs.Ytblefohjnmmpmaa
