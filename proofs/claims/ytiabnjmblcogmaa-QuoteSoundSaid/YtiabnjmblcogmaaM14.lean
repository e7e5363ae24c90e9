/- Texts put together: QuoR, QuoM, QuoT, QuoW. -/
import Derived.Test.YtiabnjmblcogmaaM13
import Derived.BigQuiet
import Derived.Deep.QuietTactic
import Derived.Deep.RegionHeld3
set_option linter.all false
section
namespace Go.Proofs.Ytiabnjmblcogmaa
open Go.RowKit
namespace Quo
open Cat (CatIn BayIn chkC nob noy makerV Cam Box box_new box_b box_next box_flat)
open Rec (BlueIn)
open Pen (below2 below_al below_dN)
theorem runsOk_no {c : CatIn} {l : List Int} {k : Nat} (hk : k < l.length) (h : runOk (l.getD k 0) = false) : runsOk c l = false := by
  unfold runsOk
  rw [Bool.and_eq_false_iff]
  left
  rw [List.all_eq_false]
  refine ⟨l[k], List.getElem_mem hk, ?_⟩
  rw [List.getD_eq_getElem?_getD, List.getElem?_eq_getElem hk] at h
  simpa using h
theorem runsOk_all {c : CatIn} {l : List Int} (h : ∀ k, k < l.length → runOk (l.getD k 0) = true) : runsOk c l = decide (l.length = c.blues.length) := by
  unfold runsOk
  have : l.all runOk = true := by
    rw [List.all_eq_true]
    intro x hx
    obtain ⟨k, hk, rfl⟩ := List.mem_iff_getElem.1 hx
    have := h k hk
    rw [List.getD_eq_getElem?_getD, List.getElem?_eq_getElem hk] at this
    exact this
  rw [this, Bool.true_and]
set_option maxRecDepth 100000 in
set_option maxHeartbeats 4000000 in
theorem runs_any (c : CatIn) (w : World) (hc : Cam w c) (a : Option Addr) (cap : Nat) (l : List Int) (hl : l.length ≤ 20) (ha : In.Ints .i64 w a l) :
    Calls Try.prog 43 #[.agg c.val, .slice a l.length cap] w fun e w' => e = .returned (.bool (runsOk c l)) ∧ Below w.heap.size w w' := by
  have HB0 := Lib.hid (box_new w c 27)
  have HL := Lib.hid ha
  have hsm := hc.small.1
  have hbw := box_b HB0.out
  obtain ⟨c0, c1, -⟩ := box_flat HB0
  obtain ⟨R, hR⟩ : ∃ R, Hid (runsOk c l = R) := ⟨_, rfl⟩
  rw [hR.out]
  obtain ⟨nb, hnb⟩ : ∃ nb, Hid (c.blues.length = nb) := ⟨_, rfl⟩
  obtain ⟨L, hLn⟩ : ∃ L, Hid (l.length = L) := ⟨_, rfl⟩
  rw [hnb.out] at hsm c1
  rw [hLn.out] at hl ⊢
  have HBw := Lib.hid hbw
  unfold CatIn.val at *
  rw [hnb.out] at HBw c1 ⊢
  clear hc ha c0 HB0 hbw
  go_enter Try.func43, Try.ntmps43
  go_wp2
  go_loop [5] (fun v5 => ∃ k : Nat, k ≤ L ∧ v5 = .int .i64 (k : Int) ∧ Hid (∀ i, i < k → runOk (l.getD i 0) = true)) (fun v5 => L - (intOf v5).toNat)
  case atStart => exact ⟨0, by omega, rfl, fun i hi => absurd hi (Nat.not_lt_zero i)⟩
  case round =>
    obtain ⟨k, hk, rfl, HF⟩ := hrel
    by_cases hlt : k < L
    · obtain ⟨b, off, rfl, hbl, hc0⟩ := HL.out k (by rw [hLn.out]; exact hlt)
      have x0 := (HBw.out.cell (p := ⟨b, off + k, none⟩) hbl).trans hc0
      have hlt1 : (k : Int) < (L : Int) := by omega
      have hk0 : (0 : Int) ≤ (k : Int) := by omega
      have HN : Hid (runOk (l.getD k 0) = false → R = false) := fun h => by rw [← hR.out]; exact runsOk_no (by rw [hLn.out]; exact hlt) h
      have HS : Hid (runOk (l.getD k 0) = true → ∀ i, i < k + 1 → runOk (l.getD i 0) = true) := fun h i hi => by
        by_cases hik : i = k
        · rw [hik]; exact h
        · exact HF.out i (by omega)
      generalize l.getD k 0 = X at *
      by_cases h1 : X < 0
      · have d1 : decide (X < 0) = true := decide_eq_true h1
        have HRf : Hid (R = false) := HN.out (by unfold runOk; rw [decide_eq_false (by omega)]; rfl)
        clear HN HS hc0
        go_wp2
        go_ret
        exact ⟨by rw [HRf.out]; rfl, HBw.out⟩
      · have d1 : decide (X < 0) = false := decide_eq_false h1
        by_cases h2 : 1000 < X
        · have d2 : decide (1000 < X) = true := decide_eq_true h2
          have HRf : Hid (R = false) := HN.out (by unfold runOk; rw [decide_eq_false (show ¬ X ≤ 1000 by omega), Bool.and_false])
          clear HN HS hc0
          go_wp2
          go_ret
          exact ⟨by rw [HRf.out]; rfl, HBw.out⟩
        · have d2 : decide (1000 < X) = false := decide_eq_false h2
          have HS2 := Lib.hid (HS.out (by unfold runOk; rw [decide_eq_true (show 0 ≤ X by omega), decide_eq_true (show X ≤ 1000 by omega)]; rfl))
          clear HN HS hc0
          go_wp2
          go_round
          case rel => exact ⟨k + 1, by omega, by go_num, HS2.out⟩
          case measure => simp [intOf]; omega
    · have dk : decide ((k : Int) < (L : Int)) = false := decide_eq_false (by omega)
      have hk2 : ¬ (k : Int) < (L : Int) := by omega
      have HRe : Hid (R = decide (L = nb)) := by
        show R = _
        rw [← hR.out, runsOk_all (fun i hi => HF.out i (by rw [hLn.out] at hi; omega)), hLn.out, hnb.out]
      by_cases he : L = nb
      · have de : ((L : Int) == (nb : Int)) = true := beq_iff_eq.2 (by omega)
        go_wp2
        go_ret
        exact ⟨by rw [HRe.out, decide_eq_true he]; rfl, HBw.out⟩
      · have de : ((L : Int) == (nb : Int)) = false := beq_eq_false_iff_ne.2 (by omega)
        go_wp2
        go_ret
        exact ⟨by rw [HRe.out, decide_eq_false he]; rfl, HBw.out⟩
end Quo
end Go.Proofs.Ytiabnjmblcogmaa
end
section
namespace Go.Proofs.Ytiabnjmblcogmaa
open Go.RowKit
namespace Quo
open Cat (CatIn BayIn chkC nob noy makerV Cam Box box_new box_b box_next box_flat)
open Rec (BlueIn)
open Pen (below2 below_al below_dN)
set_option maxRecDepth 100000 in
set_option maxHeartbeats 4000000 in
theorem may_any (c : CatIn) (w : World) (hc : Cam w c) (bay : Int) (a : Option Addr) (cap : Nat) (l : List Int) (hl : l.length ≤ 20) (ha : In.Ints .i64 w a l) (level : Int) :
    Calls Try.prog 31 #[.agg c.val, .int .i64 bay, .slice a l.length cap, .int .i64 level] w fun e w' => e = .returned (.int .i64 (mayV c bay l level)) ∧ Below w.heap.size w w' := by
  have HB0 := Lib.hid (box_new w c 27)
  have CC : Hid (∀ W, Below w.heap.size w W → Calls Try.prog 37 #[.agg c.val] W fun e w' => e = .returned (.int .i64 (chkC c)) ∧ Below W.heap.size W w') := fun W h => Cat.refCheck_any c W (hc.below h)
  have CR : Hid (∀ W, Below w.heap.size w W → Calls Try.prog 43 #[.agg c.val, .slice a l.length cap] W fun e w' => e = .returned (.bool (runsOk c l)) ∧ Below W.heap.size W w') := fun W h => runs_any c W (hc.below h) a cap l hl (ha.below h)
  have HS : Hid (mayV c bay l level = if chkC c ≠ 0 then chkC c else if bay < 1 ∨ (c.bays.length : Int) < bay then 3 else if runsOk c l = false ∨ level < 0 ∨ 10 < level then 1 else 0) := rfl
  have hny := hc.small.2.1
  generalize mayV c bay l level = V at *
  generalize chkC c = K at *
  generalize runsOk c l = R at *
  clear hc ha
  unfold CatIn.val at *
  by_cases hK : K = 0
  · subst hK
    have HS1 : Hid (V = if bay < 1 ∨ (c.bays.length : Int) < bay then 3 else if R = false ∨ level < 0 ∨ 10 < level then 1 else 0) := by show V = _; rw [HS.out, if_neg (by simp)]
    clear HS
    by_cases h1 : bay < 1
    · have d1 : decide (bay < 1) = true := decide_eq_true h1
      have HV : Hid (V = 3) := by show V = 3; rw [HS1.out, if_pos (Or.inl h1)]
      go_enter Try.func31, Try.ntmps31
      go_wp2_with (go_at_call 37; (with_reducible refine (CC.out _ (box_b HB0.out)).mono ?_); rintro e w1 ⟨rfl, hb1⟩; have HB1 := Lib.hid (box_next HB0.out hb1); clear hb1; obtain ⟨c0, c1, c2, c3, c4, c5, c6, c7, -⟩ := box_flat HB1)
      go_ret
      exact ⟨by rw [HV.out]; rfl, box_b HB1.out⟩
    · have d1 : decide (bay < 1) = false := decide_eq_false h1
      by_cases h2 : (c.bays.length : Int) < bay
      · have d2 : decide ((c.bays.length : Int) < bay) = true := decide_eq_true h2
        have HV : Hid (V = 3) := by show V = 3; rw [HS1.out, if_pos (Or.inr h2)]
        go_enter Try.func31, Try.ntmps31
        go_wp2_with (go_at_call 37; (with_reducible refine (CC.out _ (box_b HB0.out)).mono ?_); rintro e w1 ⟨rfl, hb1⟩; have HB1 := Lib.hid (box_next HB0.out hb1); clear hb1; obtain ⟨c0, c1, c2, c3, c4, c5, c6, c7, -⟩ := box_flat HB1)
        go_ret
        exact ⟨by rw [HV.out]; rfl, box_b HB1.out⟩
      · have d2 : decide ((c.bays.length : Int) < bay) = false := decide_eq_false h2
        have HS2 : Hid (V = if R = false ∨ level < 0 ∨ 10 < level then 1 else 0) := by show V = _; rw [HS1.out, if_neg (by omega)]
        clear HS1
        cases R with
        | false =>
          have HV : Hid (V = 1) := by show V = 1; rw [HS2.out, if_pos (Or.inl rfl)]
          go_enter Try.func31, Try.ntmps31
          go_wp2_with (first
            | (go_at_call 37; (with_reducible refine (CC.out _ (box_b HB0.out)).mono ?_); rintro e w1 ⟨rfl, hb1⟩; have HB1 := Lib.hid (box_next HB0.out hb1); clear hb1; obtain ⟨c0, c1, c2, c3, c4, c5, c6, c7, -⟩ := box_flat HB1)
            | (go_at_call 43; (with_reducible refine (CR.out _ (box_b HB1.out)).mono ?_); rintro e w2 ⟨rfl, hb2⟩; have HB2 := Lib.hid (box_next HB1.out hb2); clear hb2))
          go_ret
          exact ⟨by rw [HV.out]; rfl, box_b HB2.out⟩
        | true =>
          by_cases h3 : level < 0
          · have d3 : decide (level < 0) = true := decide_eq_true h3
            have HV : Hid (V = 1) := by show V = 1; rw [HS2.out, if_pos (Or.inr (Or.inl h3))]
            go_enter Try.func31, Try.ntmps31
            go_wp2_with (first
              | (go_at_call 37; (with_reducible refine (CC.out _ (box_b HB0.out)).mono ?_); rintro e w1 ⟨rfl, hb1⟩; have HB1 := Lib.hid (box_next HB0.out hb1); clear hb1; obtain ⟨c0, c1, c2, c3, c4, c5, c6, c7, -⟩ := box_flat HB1)
              | (go_at_call 43; (with_reducible refine (CR.out _ (box_b HB1.out)).mono ?_); rintro e w2 ⟨rfl, hb2⟩; have HB2 := Lib.hid (box_next HB1.out hb2); clear hb2))
            go_ret
            exact ⟨by rw [HV.out]; rfl, box_b HB2.out⟩
          · have d3 : decide (level < 0) = false := decide_eq_false h3
            by_cases h4 : 10 < level
            · have d4 : decide (10 < level) = true := decide_eq_true h4
              have HV : Hid (V = 1) := by show V = 1; rw [HS2.out, if_pos (Or.inr (Or.inr h4))]
              go_enter Try.func31, Try.ntmps31
              go_wp2_with (first
                | (go_at_call 37; (with_reducible refine (CC.out _ (box_b HB0.out)).mono ?_); rintro e w1 ⟨rfl, hb1⟩; have HB1 := Lib.hid (box_next HB0.out hb1); clear hb1; obtain ⟨c0, c1, c2, c3, c4, c5, c6, c7, -⟩ := box_flat HB1)
                | (go_at_call 43; (with_reducible refine (CR.out _ (box_b HB1.out)).mono ?_); rintro e w2 ⟨rfl, hb2⟩; have HB2 := Lib.hid (box_next HB1.out hb2); clear hb2))
              go_ret
              exact ⟨by rw [HV.out]; rfl, box_b HB2.out⟩
            · have d4 : decide (10 < level) = false := decide_eq_false h4
              have HV : Hid (V = 0) := by
                show V = 0
                rw [HS2.out, if_neg]
                rintro (h | h | h)
                · cases h
                · exact h3 h
                · exact h4 h
              go_enter Try.func31, Try.ntmps31
              go_wp2_with (first
                | (go_at_call 37; (with_reducible refine (CC.out _ (box_b HB0.out)).mono ?_); rintro e w1 ⟨rfl, hb1⟩; have HB1 := Lib.hid (box_next HB0.out hb1); clear hb1; obtain ⟨c0, c1, c2, c3, c4, c5, c6, c7, -⟩ := box_flat HB1)
                | (go_at_call 43; (with_reducible refine (CR.out _ (box_b HB1.out)).mono ?_); rintro e w2 ⟨rfl, hb2⟩; have HB2 := Lib.hid (box_next HB1.out hb2); clear hb2))
              go_ret
              exact ⟨by rw [HV.out]; rfl, box_b HB2.out⟩
  · have HV : Hid (V = K) := by show V = K; rw [HS.out, if_pos hK]
    have dK : (K != 0) = true := bne_iff_ne.2 hK
    go_enter Try.func31, Try.ntmps31
    go_wp2_with (go_at_call 37; (with_reducible refine (CC.out _ (box_b HB0.out)).mono ?_); rintro e w1 ⟨rfl, hb1⟩; have HB1 := Lib.hid (box_next HB0.out hb1); clear hb1)
    go_ret
    exact ⟨by rw [HV.out]; rfl, box_b HB1.out⟩
end Quo
end Go.Proofs.Ytiabnjmblcogmaa
end
section
namespace Go.Proofs.Ytiabnjmblcogmaa
open Go.RowKit
namespace Quo
open Cat (CatIn BayIn chkC nob noy makerV Cam Box box_new box_b box_next box_flat Blues)
open Rec (BlueIn)
open Pen (below2 below_al below_dN)
/-- A blueprint's cells. -/
def BCells (V : World) (b off : Nat) (x : BlueIn) : Prop := V.cell? ⟨b, off, none⟩ = some (.int .i64 x.makes) ∧ V.cell? ⟨b, off + 1, none⟩ = some (.int .i64 x.per) ∧ V.cell? ⟨b, off + 2, none⟩ = some (.int .i64 x.time) ∧ V.cell? ⟨b, off + 3, none⟩ = some (.slice x.addr x.needs.length x.cap) ∧ V.cell? ⟨b, off + 4, none⟩ = some (.int .i64 x.copy) ∧ V.cell? ⟨b, off + 5, none⟩ = some (.int .i64 x.study) ∧ V.cell? ⟨b, off + 6, none⟩ = some (.int .i64 x.most)
/-- What lies while a job is looked at. -/
structure Tm (w : World) (c : CatIn) (b off rb ro : Nat) (x : BlueIn) (n : Int) (V : World) : Prop where
  box : Box w c V
  lt1 : b < w.heap.size
  lt2 : rb < w.heap.size
  blue : BCells w b off x
  run : w.cell? ⟨rb, ro, none⟩ = some (.int .i64 n)
theorem Tm.next {w : World} {c : CatIn} {b off rb ro : Nat} {x : BlueIn} {n : Int} {V V' : World} (h : Hid (Tm w c b off rb ro x n V)) (hb : Below V.heap.size V V') : Hid (Tm w c b off rb ro x n V') := ⟨box_next h.out.box hb, h.out.lt1, h.out.lt2, h.out.blue, h.out.run⟩
theorem tm_flat {w : World} {c : CatIn} {b off rb ro : Nat} {x : BlueIn} {n : Int} {V : World} (h : Hid (Tm w c b off rb ro x n V)) :
    V.cell? ⟨w.heap.size, 1, none⟩ = some (.slice c.baddr c.blues.length c.bcap) ∧ V.cell? ⟨b, off, none⟩ = some (.int .i64 x.makes) ∧ V.cell? ⟨b, off + 1, none⟩ = some (.int .i64 x.per) ∧ V.cell? ⟨b, off + 2, none⟩ = some (.int .i64 x.time) ∧ V.cell? ⟨b, off + 3, none⟩ = some (.slice x.addr x.needs.length x.cap) ∧ V.cell? ⟨b, off + 4, none⟩ = some (.int .i64 x.copy) ∧ V.cell? ⟨b, off + 5, none⟩ = some (.int .i64 x.study) ∧ V.cell? ⟨b, off + 6, none⟩ = some (.int .i64 x.most) ∧ V.cell? ⟨rb, ro, none⟩ = some (.int .i64 n) ∧ Hid (Tm w c b off rb ro x n V) := by
  have hh := h.out
  have hb := box_b hh.box
  obtain ⟨-, c1, -⟩ := box_flat (Lib.hid hh.box)
  have f : ∀ j, V.cell? ⟨b, j, none⟩ = w.cell? ⟨b, j, none⟩ := fun j => hb.cell (p := ⟨b, j, none⟩) hh.lt1
  obtain ⟨d0, d1, d2, d3, d4, d5, d6⟩ := hh.blue
  exact ⟨c1, (f _).trans d0, (f _).trans d1, (f _).trans d2, (f _).trans d3, (f _).trans d4, (f _).trans d5, (f _).trans d6, (hb.cell (p := ⟨rb, ro, none⟩) hh.lt2).trans hh.run, h⟩
set_option maxRecDepth 100000 in
set_option maxHeartbeats 4000000 in
theorem time_any (c : CatIn) (w : World) (hc : Cam w c) (k : Nat) (hk : k < c.blues.length) (a : Option Addr) (cap : Nat) (l : List Int) (hl : l.length ≤ 20) (hkl : k < l.length) (ha : In.Ints .i64 w a l) (level : Int) :
    Calls Try.prog 33 #[.agg c.val, .int .i64 (k : Int), .slice a l.length cap, .int .i64 level] w fun e w' => e = .returned (.int .i64 (timeJ c k l level)) ∧ Below w.heap.size w w' := by
  obtain ⟨types, blues, baddr, bcap, places, bays, yaddr, ycap, chars, broker, least, sales⟩ := c
  have hnb := hc.small.1
  obtain ⟨b, off, hba, hbl, hbc⟩ := hc.lies.1 k hk
  dsimp only at hba hk hnb hbc
  subst hba
  obtain ⟨rb, ro, rfl, hrl, hrc⟩ := ha k hkl
  obtain ⟨c, hcd⟩ : ∃ c, (CatIn.mk types blues (some ⟨b, off, none⟩) bcap places bays yaddr ycap chars broker least sales) = c := ⟨_, rfl⟩
  have hcb : c.blues = blues := by rw [← hcd]
  rw [hcd] at hc ⊢
  rw [← hcb] at hk hnb hbc
  have HB0 := Lib.hid (box_new w c 27)
  have CT : Hid (∀ W, Below w.heap.size w W → Calls Try.prog 44 #[.agg (c.blues.getD k nob).val, .int .i64 level, .int .i64 (l.getD k 0)] W fun e w' => e = .returned (.tuple #[.int .i64 (timeJ c k l level), .int .i64 (Rec.timeV (c.blues.getD k nob) level (l.getD k 0)).2]) ∧ Below W.heap.size W w') := fun W h => Rec.refTime_any _ level _ W ((hc.below h).came hk)
  have HT0 : Hid (Tm w c b (off + k * 7) rb (ro + k) (c.blues.getD k nob) (l.getD k 0) (w.alloc (.cells c.val 27))) := ⟨HB0.out, hbl, hrl, hbc, hrc⟩
  have hk0 : (0 : Int) ≤ (k : Int) := by omega
  have hk1 : (k : Int) < (c.blues.length : Int) := by omega
  have hk2 : (k : Int) < (l.length : Int) := by omega
  generalize (Rec.timeV (c.blues.getD k nob) level (l.getD k 0)).2 = F at *
  generalize timeJ c k l level = T at *
  generalize c.blues.getD k nob = x at *
  generalize l.getD k 0 = n at *
  clear hc ha hbc hrc HB0
  subst hcd
  dsimp only at *
  unfold BlueIn.val CatIn.val at *
  dsimp only at *
  go_enter Try.func33, Try.ntmps33
  go_upto_region 1 with (fail)
  have HT1 := Lib.hid (Tm.next HT0 (Below.refl _ _).drew).out
  go_region_held3 (fun V => V.cell? ⟨w.heap.size, 1, none⟩ = some (.slice (some ⟨b, off, none⟩) blues.length bcap) ∧ V.cell? ⟨b, off + k * 7, none⟩ = some (.int .i64 x.makes) ∧ V.cell? ⟨b, off + k * 7 + 1, none⟩ = some (.int .i64 x.per) ∧ V.cell? ⟨b, off + k * 7 + 2, none⟩ = some (.int .i64 x.time) ∧ V.cell? ⟨b, off + k * 7 + 3, none⟩ = some (.slice x.addr x.needs.length x.cap) ∧ V.cell? ⟨b, off + k * 7 + 4, none⟩ = some (.int .i64 x.copy) ∧ V.cell? ⟨b, off + k * 7 + 5, none⟩ = some (.int .i64 x.study) ∧ V.cell? ⟨b, off + k * 7 + 6, none⟩ = some (.int .i64 x.most) ∧ V.cell? ⟨rb, ro + k, none⟩ = some (.int .i64 n) ∧ Hid (Tm w ⟨types, blues, some ⟨b, off, none⟩, bcap, places, bays, yaddr, ycap, chars, broker, least, sales⟩ b (off + k * 7) rb (ro + k) x n V)) (first | exact tm_flat HT2 | exact tm_flat HT1)
    (first
    | (go_at_call 44; (with_reducible refine (CT.out _ (box_b HT1.out.box)).mono ?_); rintro e w2 ⟨rfl, hb2⟩; have HT2 := Lib.hid (Tm.next HT1 hb2).out))
  go_wp2
  go_ret
  exact ⟨rfl, box_b HT2.out.box⟩
end Quo
end Go.Proofs.Ytiabnjmblcogmaa
end
section
namespace Go.Proofs.Ytiabnjmblcogmaa
open Go.RowKit
namespace Quo
open Cat (CatIn BayIn chkC nob noy makerV Cam Box box_new box_b box_next box_flat Blues)
open Rec (BlueIn Stk)
open Pen (below2 below_al below_dN)
/-- What lies while a need is looked at. -/
structure Wt (w : World) (c : CatIn) (b off nb no : Nat) (v : Value) (n : Int) (V : World) : Prop where
  box : Box w c V
  lt1 : b < w.heap.size
  lt2 : nb < w.heap.size
  need : w.cell? ⟨b, off, none⟩ = some v
  num : w.cell? ⟨nb, no, none⟩ = some (.int .i64 n)
theorem Wt.next {w : World} {c : CatIn} {b off nb no : Nat} {v : Value} {n : Int} {V V' : World} (h : Hid (Wt w c b off nb no v n V)) (hb : Below V.heap.size V V') : Hid (Wt w c b off nb no v n V') := ⟨box_next h.out.box hb, h.out.lt1, h.out.lt2, h.out.need, h.out.num⟩
theorem wt_flat {w : World} {c : CatIn} {b off nb no : Nat} {v : Value} {n : Int} {V : World} (h : Hid (Wt w c b off nb no v n V)) :
    V.cell? ⟨w.heap.size, 0, none⟩ = some (.int .i64 c.types) ∧ V.cell? ⟨w.heap.size, 1, none⟩ = some (.slice c.baddr c.blues.length c.bcap) ∧ V.cell? ⟨w.heap.size, 2, none⟩ = some (.int .i64 c.places) ∧ V.cell? ⟨w.heap.size, 3, none⟩ = some (.slice c.yaddr c.bays.length c.ycap) ∧ V.cell? ⟨w.heap.size, 4, none⟩ = some (.int .i64 c.chars) ∧ V.cell? ⟨w.heap.size, 5, none⟩ = some (.int .i64 c.broker) ∧ V.cell? ⟨w.heap.size, 6, none⟩ = some (.int .i64 c.least) ∧ V.cell? ⟨w.heap.size, 7, none⟩ = some (.int .i64 c.sales) ∧ V.cell? ⟨b, off, none⟩ = some v ∧ V.cell? ⟨nb, no, none⟩ = some (.int .i64 n) ∧ Hid (Wt w c b off nb no v n V) := by
  have hh := h.out
  have hb := box_b hh.box
  obtain ⟨c0, c1, c2, c3, c4, c5, c6, c7, -⟩ := box_flat (Lib.hid hh.box)
  exact ⟨c0, c1, c2, c3, c4, c5, c6, c7, (hb.cell (p := ⟨b, off, none⟩) hh.lt1).trans hh.need, (hb.cell (p := ⟨nb, no, none⟩) hh.lt2).trans hh.num, h⟩
theorem any_take {α : Type} (P : α → Bool) (l : List α) (d : α) (k : Nat) (hk : k < l.length) (h : P (l.getD k d) = true) : l.any P = true := by
  rw [List.any_eq_true]
  refine ⟨l[k], List.getElem_mem hk, ?_⟩
  rw [List.getD_eq_getElem?_getD, List.getElem?_eq_getElem hk] at h
  exact h
theorem any_none {α : Type} (P : α → Bool) (l : List α) (d : α) (h : ∀ k, k < l.length → P (l.getD k d) = false) : l.any P = false := by
  rw [List.any_eq_false]
  intro x hx
  obtain ⟨k, hk, rfl⟩ := List.mem_iff_getElem.1 hx
  have := h k hk
  rw [List.getD_eq_getElem?_getD, List.getElem?_eq_getElem hk] at this
  simpa using this
set_option maxRecDepth 100000 in
set_option maxHeartbeats 4000000 in
theorem waits_any (c : CatIn) (w : World) (hc : Cam w c) (k x : Nat) (hk : k < c.blues.length) (a : Option Addr) (cap : Nat) (l : List Int) (hl : l.length ≤ 20) (hxl : x < l.length) (ha : In.Ints .i64 w a l) :
    Calls Try.prog 32 #[.agg c.val, .slice a l.length cap, .int .i64 (k : Int), .int .i64 (x : Int)] w fun e w' => e = .returned (.bool (waitsV c l k x)) ∧ Below w.heap.size w w' := by
  obtain ⟨types, blues, baddr, bcap, places, bays, yaddr, ycap, chars, broker, least, sales⟩ := c
  obtain ⟨b, off, hba, hbl, hbc⟩ := hc.lies.1 k hk
  dsimp only at hba hk hbc
  subst hba
  obtain ⟨rb, ro, rfl, hrl, hrc⟩ := ha x hxl
  obtain ⟨c, hcd⟩ : ∃ c, (CatIn.mk types blues (some ⟨b, off, none⟩) bcap places bays yaddr ycap chars broker least sales) = c := ⟨_, rfl⟩
  have hcb : c.blues = blues := by rw [← hcd]
  rw [hcd] at hc ⊢
  rw [← hcb] at hk hbc
  have hnb := hc.small.1
  have hnn := hc.small.2.2 k hk
  have HST := Lib.hid (hc.lies.2.2 k hk)
  have HB0 := Lib.hid (box_new w c 27)
  have CM : Hid (∀ W z, Below w.heap.size w W → Calls Try.prog 51 #[.agg c.val, .int .i64 z] W fun e w' => e = .returned (.int .i64 (makerV c.blues z)) ∧ Below W.heap.size W w') := fun W z h => Cat.refMaker_any c z W (hc.below h)
  have HV : Hid (waitsV c l k x = (!decide (l.getD x 0 = 0) && (c.blues.getD k nob).needs.any fun s => decide (makerV c.blues s.1 = (x : Int) + 1))) := rfl
  obtain ⟨d0, d1, d2, d3, d4, d5, d6⟩ := hbc
  have hr0 := (box_b HB0.out).cell (p := ⟨rb, ro + x, none⟩) hrl
  rw [hrc] at hr0
  have hk0 : (0 : Int) ≤ (k : Int) := by omega
  have hk1 : (k : Int) < (c.blues.length : Int) := by omega
  have hx0 : (0 : Int) ≤ (x : Int) := by omega
  have hx2 : (x : Int) < (l.length : Int) := by omega
  have HD3 := Lib.hid d3
  have hx20 : (x : Int) ≤ 20 := by omega
  generalize waitsV c l k x = R at *
  generalize l.getD x 0 = n at *
  obtain ⟨P, hP⟩ : ∃ P : Stk → Bool, Hid ((fun s : Stk => decide (makerV c.blues s.1 = (x : Int) + 1)) = P) := ⟨_, rfl⟩
  rw [hP.out] at HV
  generalize c.blues.getD k nob = X at *
  obtain ⟨makes, per, time, needs, naddr, ncap, copy, study, most⟩ := X
  dsimp only at hnn HST HD3 HV d3
  clear hc ha hrc d0 d1 d2 d4 d5 d6
  subst hcd
  dsimp only at *
  unfold CatIn.val at *
  dsimp only at *
  have hrbs : rb < w.heap.size := hrl
  by_cases hn : n = 0
  · subst hn
    have HR : Hid (R = false) := by show R = false; rw [HV.out]; rfl
    go_enter Try.func32, Try.ntmps32
    go_wp2
    go_ret
    exact ⟨by rw [HR.out]; rfl, box_b HB0.out⟩
  · have dn : (n == 0) = false := beq_eq_false_iff_ne.2 hn
    have HV2 : Hid (R = needs.any P) := by show R = _; rw [HV.out, decide_eq_false hn]; rfl
    clear HV
    go_enter Try.func32, Try.ntmps32
    go_wp2
    go_loopw [9] (fun v wr => ∃ i : Nat, v = .int .i64 (i : Int) ∧ i ≤ needs.length ∧ Hid (∀ j, j < i → P (needs.getD j (0, 0)) = false) ∧ Hid (Box w ⟨types, blues, some ⟨b, off, none⟩, bcap, places, bays, yaddr, ycap, chars, broker, least, sales⟩ wr)) (fun v _ => needs.length - (intOf v).toNat)
    case atStart => exact ⟨0, rfl, Nat.zero_le _, fun j hj => absurd hj (Nat.not_lt_zero j), HB0.out⟩
    case round =>
      obtain ⟨i, rfl, hi, HF, HB⟩ := hrel
      have hbel := box_b HB.out
      have y3 := (hbel.cell (p := ⟨b, off + k * 7 + 3, none⟩) hbl).trans HD3.out
      obtain ⟨-, y1, -⟩ := box_flat HB
      dsimp only at y1
      have hbs : b < wr.heap.size := Nat.lt_of_lt_of_le hbl hbel.size
      by_cases hin : i < needs.length
      · have di : decide ((i : Int) < (needs.length : Int)) = true := decide_eq_true (by omega)
        have hi1 : (i : Int) < (needs.length : Int) := by omega
        have hi0 : (0 : Int) ≤ (i : Int) := by omega
        obtain ⟨nbk, nof, rfl, hnl, hn0, hn1⟩ := HST.out i hin
        have HPi : Hid (P (needs.getD i (0, 0)) = decide (makerV blues (needs.getD i (0, 0)).1 = (x : Int) + 1)) := by show _ = _; rw [← hP.out]
        have HYes : Hid (P (needs.getD i (0, 0)) = true → R = true) := fun h => by rw [HV2.out]; exact any_take P needs (0, 0) i hin h
        have HNx : Hid (P (needs.getD i (0, 0)) = false → ∀ j, j < i + 1 → P (needs.getD j (0, 0)) = false) := fun h j hj => by
          by_cases hji : j = i
          · rw [hji]; exact h
          · exact HF.out j (by omega)
        have HT0 : Hid (Wt w ⟨types, blues, some ⟨b, off, none⟩, bcap, places, bays, yaddr, ycap, chars, broker, least, sales⟩ b (off + k * 7 + 3) nbk (nof + i * 2) (.slice (some ⟨nbk, nof, none⟩) needs.length ncap) (needs.getD i (0, 0)).1 wr) := ⟨HB.out, hbl, hnl, HD3.out, hn0⟩
        have ew : IntKind.i64.wrap ((x : Int) + 1) = (x : Int) + 1 := by rw [IntKind.wrap_i64]; omega
        generalize needs.getD i (0, 0) = q at *
        obtain ⟨z, z2⟩ := q
        dsimp only at *
        clear hn0 hn1
        by_cases hm : makerV blues z = (x : Int) + 1
        · have HR : Hid (R = true) := HYes.out (by rw [HPi.out]; exact decide_eq_true hm)
          have dm : (makerV blues z == (x : Int) + 1) = true := beq_iff_eq.2 hm
          go_upto_region 6 with (fail)
          have HT1 := Lib.hid (Wt.next HT0 (Below.refl wr.heap.size wr).drew).out
          go_region_held3 (fun V => V.cell? ⟨w.heap.size, 0, none⟩ = some (.int .i64 types) ∧ V.cell? ⟨w.heap.size, 1, none⟩ = some (.slice (some ⟨b, off, none⟩) blues.length bcap) ∧ V.cell? ⟨w.heap.size, 2, none⟩ = some (.int .i64 places) ∧ V.cell? ⟨w.heap.size, 3, none⟩ = some (.slice yaddr bays.length ycap) ∧ V.cell? ⟨w.heap.size, 4, none⟩ = some (.int .i64 chars) ∧ V.cell? ⟨w.heap.size, 5, none⟩ = some (.int .i64 broker) ∧ V.cell? ⟨w.heap.size, 6, none⟩ = some (.int .i64 least) ∧ V.cell? ⟨w.heap.size, 7, none⟩ = some (.int .i64 sales) ∧ V.cell? ⟨b, off + k * 7 + 3, none⟩ = some (.slice (some ⟨nbk, nof, none⟩) needs.length ncap) ∧ V.cell? ⟨nbk, nof + i * 2, none⟩ = some (.int .i64 z) ∧ Hid (Wt w ⟨types, blues, some ⟨b, off, none⟩, bcap, places, bays, yaddr, ycap, chars, broker, least, sales⟩ b (off + k * 7 + 3) nbk (nof + i * 2) (.slice (some ⟨nbk, nof, none⟩) needs.length ncap) z V)) (first | exact wt_flat HT2 | exact wt_flat HT1)
            (first
            | (go_at_call 51; (with_reducible refine (CM.out _ _ (box_b HT1.out.box)).mono ?_); rintro e w2 ⟨rfl, hb2⟩; have HT2 := Lib.hid (Wt.next HT1 hb2).out))
          go_wp2
          go_ret
          exact ⟨by rw [HR.out]; rfl, box_b HT2.out.box⟩
        · have HN2 := Lib.hid (HNx.out (by rw [HPi.out]; exact decide_eq_false hm))
          have dm : (makerV blues z == (x : Int) + 1) = false := beq_eq_false_iff_ne.2 hm
          go_upto_region 6 with (fail)
          have HT1 := Lib.hid (Wt.next HT0 (Below.refl wr.heap.size wr).drew).out
          go_region_held3 (fun V => V.cell? ⟨w.heap.size, 0, none⟩ = some (.int .i64 types) ∧ V.cell? ⟨w.heap.size, 1, none⟩ = some (.slice (some ⟨b, off, none⟩) blues.length bcap) ∧ V.cell? ⟨w.heap.size, 2, none⟩ = some (.int .i64 places) ∧ V.cell? ⟨w.heap.size, 3, none⟩ = some (.slice yaddr bays.length ycap) ∧ V.cell? ⟨w.heap.size, 4, none⟩ = some (.int .i64 chars) ∧ V.cell? ⟨w.heap.size, 5, none⟩ = some (.int .i64 broker) ∧ V.cell? ⟨w.heap.size, 6, none⟩ = some (.int .i64 least) ∧ V.cell? ⟨w.heap.size, 7, none⟩ = some (.int .i64 sales) ∧ V.cell? ⟨b, off + k * 7 + 3, none⟩ = some (.slice (some ⟨nbk, nof, none⟩) needs.length ncap) ∧ V.cell? ⟨nbk, nof + i * 2, none⟩ = some (.int .i64 z) ∧ Hid (Wt w ⟨types, blues, some ⟨b, off, none⟩, bcap, places, bays, yaddr, ycap, chars, broker, least, sales⟩ b (off + k * 7 + 3) nbk (nof + i * 2) (.slice (some ⟨nbk, nof, none⟩) needs.length ncap) z V)) (first | exact wt_flat HT2 | exact wt_flat HT1)
            (first
            | (go_at_call 51; (with_reducible refine (CM.out _ _ (box_b HT1.out.box)).mono ?_); rintro e w2 ⟨rfl, hb2⟩; have HT2 := Lib.hid (Wt.next HT1 hb2).out))
          go_wp2
          go_roundw
          case rel => exact ⟨i + 1, by go_num, by omega, HN2.out, HT2.out.box⟩
          case measure => simp [intOf]; omega
      · have di : decide ((i : Int) < (needs.length : Int)) = false := decide_eq_false (by omega)
        have hi1 : ¬ (i : Int) < (needs.length : Int) := by omega
        have HR : Hid (R = false) := by show R = false; rw [HV2.out]; exact any_none P needs (0, 0) fun j hj => HF.out j (by omega)
        go_wp2
        go_ret
        exact ⟨by rw [HR.out]; rfl, hbel⟩
end Quo
end Go.Proofs.Ytiabnjmblcogmaa
end
