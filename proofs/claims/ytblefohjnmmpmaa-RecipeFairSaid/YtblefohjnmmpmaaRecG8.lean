/- How many runs, how long runs, study and copies take: the package and the reference answer alike. -/
import Derived.Test.YtblefohjnmmpmaaRecG7
import Derived.Handy
namespace Go.Proofs.Ytblefohjnmmpmaa
open Go.RowKit
namespace Rec
set_option maxRecDepth 100000 in
set_option maxHeartbeats 4000000 in
theorem refMakes_any (b : BlueIn) (x : Int) (w : World) (hb : Came w b) :
    Calls Try.prog 11 #[.agg b.val, .int .i64 x] w fun e w' => e = .returned (.tuple #[.agg #[.int .i64 (makesV b x).1.1, .int .i64 (makesV b x).1.2], .int .i64 (makesV b x).2]) ∧ Below w.heap.size w w' := by
  have HB := Lib.hid hb
  have HS : Hid (makesV b x = if (decide (bchk b 32 = 0) && inB (x, 1, 1000)) then ((b.makes, b.per * x), 0) else ((0, 0), 1)) := rfl
  have CK : Hid (∀ (W : World), Below w.heap.size w W → Calls Try.prog 16 #[.agg #[.int .i64 b.makes, .int .i64 b.per, .int .i64 b.time, .slice b.addr b.needs.length b.cap, .int .i64 b.copy, .int .i64 b.study, .int .i64 b.most], .int .i64 32] W fun e w' => e = .returned (.int .i64 (bchk b 32)) ∧ Below W.heap.size W w') := fun W hW => refCheck12_any b 32 W (HB.out.below hW)
  have I0 : Hid (∀ W : World, Calls Try.prog 26 #[.int .i64 x, .int .i64 1, .int .i64 1000] W fun e w' => e = .returned (.bool (inB (x, 1, 1000))) ∧ W = w') := in_any _ _ _
  have J0 : Hid (inB (x, 1, 1000) = true → _) := fun h => inB_ok h
  have HK : Hid (bchk b 32 = 0 → _) := fun h => bchk_ok b 32 h
  have H2 : Hid (bchk b 32 = 0 ∨ bchk b 32 = 1) := bchk_two b 32
  generalize bchk b 32 = K at *
  generalize inB (x, 1, 1000) = F0 at *
  unfold BlueIn.val
  clear hb
  have hbw := Lib.hid (((Below.refl w.heap.size w).alloc (Nat.le_refl _) (.cells #[.int .i64 b.makes, .int .i64 b.per, .int .i64 b.time, .slice b.addr b.needs.length b.cap, .int .i64 b.copy, .int .i64 b.study, .int .i64 b.most] 24)).alloc (by simp) (.cells #[.int .i64 0, .int .i64 0] 30))
  rcases H2.out with rfl | rfl
  case inr =>
    have HV : Hid (makesV b x = ((0, 0), 1)) := HS.out
    generalize makesV b x = V at *
    go_enter Try.func11, Try.ntmps11
    go_wp2_with (first | (go_at_call 16; ((with_reducible refine (CK.out _ hbw.out).mono ?_); rintro e w1 ⟨rfl, hb1⟩; have hb1' := hbw.out.trans (hb1.mono (by simp; omega)); have c0 := box2_fst hb1 0; have c1 := box2_fst hb1 1; have f0 := box2_frz hb1 0; have f1 := box2_frz hb1 1; have r0 := box2_snd hb1 0; have r1 := box2_snd hb1 1; simp only [List.getElem?_toArray, List.getElem?_cons_zero, List.getElem?_cons_succ] at c0 c1 r0 r1; have s1 := Lib.hid (box2_lt hb1))))
    have e0 : (w1.setCell ⟨w.heap.size + 1, 0, none⟩ (.int .i64 0)).cell? ⟨w.heap.size + 1, 0, none⟩ = some (.int .i64 0) := World.cell?_setCell_same _ _ _ r0
    have e1 : ((w1.setCell ⟨w.heap.size + 1, 0, none⟩ (.int .i64 0)).setCell ⟨w.heap.size + 1, 1, none⟩ (.int .i64 0)).cell? ⟨w.heap.size + 1, 1, none⟩ = some (.int .i64 0) := World.cell?_setCell_same _ _ _ ((World.cell?_setCell_other _ _ _ _ (by simp)).trans r1)
    refine bodyPost_ret (by simp [results, Try.results11, go_sem, e0, e1]; rfl) rfl ?_
    exact ⟨by rw [HV.out], (hb1'.setCell (Nat.le_succ _) _).setCell (Nat.le_succ _) _⟩
  cases F0
  case false =>
    have HV : Hid (makesV b x = ((0, 0), 1)) := HS.out
    generalize makesV b x = V at *
    go_enter Try.func11, Try.ntmps11
    go_wp2_with (first | (go_at_call 16; ((with_reducible refine (CK.out _ hbw.out).mono ?_); rintro e w1 ⟨rfl, hb1⟩; have hb1' := hbw.out.trans (hb1.mono (by simp; omega)); have c0 := box2_fst hb1 0; have c1 := box2_fst hb1 1; have f0 := box2_frz hb1 0; have f1 := box2_frz hb1 1; have r0 := box2_snd hb1 0; have r1 := box2_snd hb1 1; simp only [List.getElem?_toArray, List.getElem?_cons_zero, List.getElem?_cons_succ] at c0 c1 r0 r1; have s1 := Lib.hid (box2_lt hb1))) | (go_at_call 26; ((with_reducible refine (I0.out _).mono ?_); rintro e w2 ⟨rfl, rfl⟩)))
    have e0 : (w1.setCell ⟨w.heap.size + 1, 0, none⟩ (.int .i64 0)).cell? ⟨w.heap.size + 1, 0, none⟩ = some (.int .i64 0) := World.cell?_setCell_same _ _ _ r0
    have e1 : ((w1.setCell ⟨w.heap.size + 1, 0, none⟩ (.int .i64 0)).setCell ⟨w.heap.size + 1, 1, none⟩ (.int .i64 0)).cell? ⟨w.heap.size + 1, 1, none⟩ = some (.int .i64 0) := World.cell?_setCell_same _ _ _ ((World.cell?_setCell_other _ _ _ _ (by simp)).trans r1)
    refine bodyPost_ret (by simp [results, Try.results11, go_sem, e0, e1]; rfl) rfl ?_
    exact ⟨by rw [HV.out], (hb1'.setCell (Nat.le_succ _) _).setCell (Nat.le_succ _) _⟩
  case true =>
    obtain ⟨hx1, hx2⟩ := J0.out rfl
    obtain ⟨_, _, ⟨hp1, hp2⟩, _⟩ := HK.out rfl
    have Q2 : Hid (wrap64 (b.per * x) = b.per * x) := by
      show wrap64 (b.per * x) = _
      have hP := mul_bd (show 0 ≤ b.per by omega) hp2 (show 0 ≤ x by omega) hx2
      generalize b.per * x = P at *; unfold wrap64; omega
    clear hx1 hx2 hp1 hp2
    have HV : Hid (makesV b x = ((b.makes, b.per * x), 0)) := HS.out
    generalize makesV b x = V at *
    go_enter Try.func11, Try.ntmps11
    go_wp2_with (first | (go_at_call 16; ((with_reducible refine (CK.out _ hbw.out).mono ?_); rintro e w1 ⟨rfl, hb1⟩; have hb1' := hbw.out.trans (hb1.mono (by simp; omega)); have c0 := box2_fst hb1 0; have c1 := box2_fst hb1 1; have f0 := box2_frz hb1 0; have f1 := box2_frz hb1 1; have r0 := box2_snd hb1 0; have r1 := box2_snd hb1 1; simp only [List.getElem?_toArray, List.getElem?_cons_zero, List.getElem?_cons_succ] at c0 c1 r0 r1; have s1 := Lib.hid (box2_lt hb1))) | (go_at_call 26; ((with_reducible refine (I0.out _).mono ?_); rintro e w2 ⟨rfl, rfl⟩)))
    have e0 : (w1.setCell ⟨w.heap.size + 1, 0, none⟩ (.int .i64 b.makes)).cell? ⟨w.heap.size + 1, 0, none⟩ = some (.int .i64 b.makes) := World.cell?_setCell_same _ _ _ r0
    have e1 : ((w1.setCell ⟨w.heap.size + 1, 0, none⟩ (.int .i64 b.makes)).setCell ⟨w.heap.size + 1, 1, none⟩ (.int .i64 (wrap64 (b.per * x)))).cell? ⟨w.heap.size + 1, 1, none⟩ = some (.int .i64 (wrap64 (b.per * x))) := World.cell?_setCell_same _ _ _ ((World.cell?_setCell_other _ _ _ _ (by simp)).trans r1)
    refine bodyPost_ret (by simp [results, Try.results11, go_sem, e0, e1]; rfl) rfl ?_
    exact ⟨by rw [HV.out, Q2.out], (hb1'.setCell (Nat.le_succ _) _).setCell (Nat.le_succ _) _⟩
end Rec
end Go.Proofs.Ytblefohjnmmpmaa
