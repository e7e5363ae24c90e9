/- Texts put together: QuoF, QuoC, QuoN, QuoA, QuoH. -/
import Derived.Test.YtiabnjmblcogmaaM14
set_option linter.all false
section
namespace Go.Proofs.Ytiabnjmblcogmaa
open Go.RowKit
namespace Quo
open Cat (CatIn BayIn chkC nob noy makerV Cam Box box_new box_b box_next box_flat Blues)
open Rec (BlueIn Stk)
open Pen (below2 below_al below_dN)
open Fee (bayV)
/-- What the bay asks for. -/
def rateOf (c : CatIn) (bay : Int) : Int := (c.bays.getD (bay.toNat - 1) noy).rate
/-- What the bay asks for the first jobs; none: one takes too long. -/
def feeTo (c : CatIn) (bay : Int) (l : List Int) (level : Int) : Nat → Option Int
  | 0 => some 0
  | k + 1 => match feeTo c bay l level k with
    | none => none
    | some n => if 0 < l.getD k 0 then (if 1099511627776 < timeJ c k l level then none else some (n + (bayV (rateOf c bay) (timeJ c k l level)).1)) else some n
def feeV (c : CatIn) (bay : Int) (l : List Int) (level : Int) : Int × Int :=
  if mayV c bay l level ≠ 0 then (0, mayV c bay l level) else match feeTo c bay l level c.blues.length with
    | none => (0, 5)
    | some n => (n, 0)
theorem feeTo_none {c : CatIn} {bay : Int} {l : List Int} {level : Int} {k : Nat} (h : feeTo c bay l level k = none) : ∀ n, k ≤ n → feeTo c bay l level n = none := by
  intro n hn
  induction n with
  | zero => rwa [show k = 0 by omega] at h
  | succ n ih =>
    by_cases hk : k = n + 1
    · rw [← hk]; exact h
    · unfold feeTo
      rw [ih (by omega)]
theorem bay_bounds (p x : Int) : 0 ≤ (bayV p x).1 ∧ (bayV p x).1 ≤ 1099511627777 := by
  unfold bayV
  split
  · rename_i h
    rw [Bool.and_eq_true] at h
    obtain ⟨p0, p1⟩ := Fee.inR_yes h.1
    obtain ⟨x0, x1⟩ := Fee.inR_yes h.2
    show 0 ≤ Fee.sc x p true ∧ Fee.sc x p true ≤ _
    unfold Fee.sc Div.scl
    have h1 : x.toNat * p.toNat ≤ 1099511627776 * 10000 := Nat.mul_le_mul (by omega) (by omega)
    have h2 : x.toNat * p.toNat / 10000 ≤ 1099511627776 := Nat.div_le_of_le_mul (by omega)
    refine ⟨Int.natCast_nonneg _, ?_⟩
    split <;> omega
  · exact ⟨Int.le_refl _, by show (0 : Int) ≤ _; decide⟩
theorem mayV_ok {c : CatIn} {bay : Int} {l : List Int} {level : Int} (h : mayV c bay l level = 0) : chkC c = 0 ∧ 1 ≤ bay ∧ bay ≤ (c.bays.length : Int) ∧ runsOk c l = true ∧ 0 ≤ level ∧ level ≤ 10 := by
  unfold mayV at h
  by_cases h1 : chkC c = 0
  · rw [if_neg (by simpa using h1)] at h
    by_cases h2 : bay < 1 ∨ (c.bays.length : Int) < bay
    · rw [if_pos h2] at h; cases h
    · rw [if_neg h2] at h
      by_cases h3 : runsOk c l = false ∨ level < 0 ∨ 10 < level
      · rw [if_pos h3] at h; cases h
      · refine ⟨h1, by omega, by omega, ?_, by omega, by omega⟩
        cases hr : runsOk c l with
        | true => rfl
        | false => exact absurd (Or.inl hr) h3
  · rw [if_pos h1] at h
    exact absurd h h1
theorem runsOk_len {c : CatIn} {l : List Int} (h : runsOk c l = true) : l.length = c.blues.length := by
  unfold runsOk at h
  rw [Bool.and_eq_true] at h
  exact of_decide_eq_true h.2
set_option maxRecDepth 100000 in
set_option maxHeartbeats 4000000 in
theorem refFee_any (c : CatIn) (w : World) (hc : Cam w c) (bay : Int) (a : Option Addr) (cap : Nat) (l : List Int) (hl : l.length ≤ 20) (ha : In.Ints .i64 w a l) (level : Int) :
    Calls Try.prog 11 #[.agg c.val, .int .i64 bay, .slice a l.length cap, .int .i64 level] w fun e w' => e = .returned (.tuple #[.int .i64 (feeV c bay l level).1, .int .i64 (feeV c bay l level).2]) ∧ Below w.heap.size w w' := by
  have HB0 := Lib.hid (box_new w c 27)
  have CM : Hid (∀ W, Below w.heap.size w W → Calls Try.prog 31 #[.agg c.val, .int .i64 bay, .slice a l.length cap, .int .i64 level] W fun e w' => e = .returned (.int .i64 (mayV c bay l level)) ∧ Below W.heap.size W w') := fun W h => may_any c W (hc.below h) bay a cap l hl (ha.below h) level
  by_cases hm : mayV c bay l level = 0
  · obtain ⟨-, hb1, hb2, hr, -, -⟩ := mayV_ok hm
    have hlen := runsOk_len hr
    rw [hm] at CM
    have HV : Hid (feeV c bay l level = match feeTo c bay l level c.blues.length with | none => (0, 5) | some n => (n, 0)) := by
      show _ = _
      unfold feeV
      rw [if_neg (by simpa using hm)]
    clear hm hr
    obtain ⟨Bn, rfl⟩ : ∃ Bn : Nat, bay = (Bn : Int) + 1 := ⟨bay.toNat - 1, by omega⟩
    have hBn : Bn < c.bays.length := by omega
    have hny := hc.small.2.1
    have hnb := hc.small.1
    obtain ⟨yb, yo, hya, hyl, y0, y1, y2, y3⟩ := hc.lies.2.1 Bn hBn
    have hrate : rateOf c ((Bn : Int) + 1) = (c.bays.getD Bn noy).rate := by unfold rateOf; rw [show ((Bn : Int) + 1).toNat - 1 = Bn by omega]
    rw [← hrate] at y3
    have CT : Hid (∀ W (k : Nat), k < c.blues.length → Below w.heap.size w W → Calls Try.prog 33 #[.agg c.val, .int .i64 (k : Int), .slice a l.length cap, .int .i64 level] W fun e w' => e = .returned (.int .i64 (timeJ c k l level)) ∧ Below W.heap.size W w') := fun W k hk h => time_any c W (hc.below h) k hk a cap l hl (by omega) (ha.below h) level
    have CB : Hid (∀ (W : World) (x : Int), Calls Try.prog 35 #[.int .i64 (rateOf c ((Bn : Int) + 1)), .int .i64 x] W fun e w' => e = .returned (.tuple #[.int .i64 (bayV (rateOf c ((Bn : Int) + 1)) x).1, .int .i64 (bayV (rateOf c ((Bn : Int) + 1)) x).2]) ∧ Below W.heap.size W w') := fun W x => Fee.refBay_any _ x W
    have HF : Hid (∀ k n, feeTo c ((Bn : Int) + 1) l level k = some n → feeTo c ((Bn : Int) + 1) l level (k + 1) = if 0 < l.getD k 0 then (if 1099511627776 < timeJ c k l level then none else some (n + (bayV (rateOf c ((Bn : Int) + 1)) (timeJ c k l level)).1)) else some n) := fun k n h => by
      rw [feeTo, h]
    have HF0 : Hid (feeTo c ((Bn : Int) + 1) l level 0 = some 0) := rfl
    have HFN : Hid (∀ k, feeTo c ((Bn : Int) + 1) l level k = none → k ≤ c.blues.length → feeV c ((Bn : Int) + 1) l level = (0, 5)) := fun k h hk => by rw [HV.out, feeTo_none h _ hk]
    have HFS : Hid (∀ n, feeTo c ((Bn : Int) + 1) l level c.blues.length = some n → feeV c ((Bn : Int) + 1) l level = (n, 0)) := fun n h => by rw [HV.out, h]
    generalize feeTo c ((Bn : Int) + 1) l level = FT at *
    generalize feeV c ((Bn : Int) + 1) l level = V at *
    generalize rateOf c ((Bn : Int) + 1) = rate at *
    have HA := Lib.hid ha
    obtain ⟨nb, hnbe⟩ : ∃ nb, Hid (c.blues.length = nb) := ⟨_, rfl⟩
    obtain ⟨L, hLe⟩ : ∃ L, Hid (l.length = L) := ⟨_, rfl⟩
    have hLnb : L = nb := by rw [← hLe.out, ← hnbe.out]; exact hlen
    subst hLnb
    have hL20 : L ≤ 20 := by rw [← hLe.out]; exact hl
    rw [hLe.out] at CM CT ⊢
    rw [hnbe.out] at CT HFN HFS
    have HBF : Hid (∀ W, Hid (Box w c W) → W.cell? ⟨w.heap.size, 0, none⟩ = some (.int .i64 c.types) ∧ W.cell? ⟨w.heap.size, 1, none⟩ = some (.slice c.baddr L c.bcap) ∧ W.cell? ⟨w.heap.size, 2, none⟩ = some (.int .i64 c.places) ∧ W.cell? ⟨w.heap.size, 3, none⟩ = some (.slice (some ⟨yb, yo, none⟩) c.bays.length c.ycap) ∧ W.cell? ⟨w.heap.size, 4, none⟩ = some (.int .i64 c.chars) ∧ W.cell? ⟨w.heap.size, 5, none⟩ = some (.int .i64 c.broker) ∧ W.cell? ⟨w.heap.size, 6, none⟩ = some (.int .i64 c.least) ∧ W.cell? ⟨w.heap.size, 7, none⟩ = some (.int .i64 c.sales) ∧ W.cell? ⟨yb, yo + Bn * 4 + 3, none⟩ = some (.int .i64 rate) ∧ yb < W.heap.size) := fun W h => by
      obtain ⟨c0, c1, c2, c3, c4, c5, c6, c7, -⟩ := box_flat h
      rw [hnbe.out] at c1
      rw [hya] at c3
      exact ⟨c0, c1, c2, c3, c4, c5, c6, c7, ((box_b h.out).cell (p := ⟨yb, yo + Bn * 4 + 3, none⟩) hyl).trans y3, Nat.lt_of_lt_of_le hyl (box_b h.out).size⟩
    have hb0 : (0 : Int) ≤ (Bn : Int) := by omega
    have hb3 : (Bn : Int) < (c.bays.length : Int) := by omega
    have hb4 : (Bn : Int) ≤ 20 := by omega
    unfold CatIn.val at *
    rw [hnbe.out] at CM CT HB0 ⊢
    rw [hya] at CM CT HB0 ⊢
    clear hc ha y0 y1 y2 y3 hrate hlen hnb hl
    go_enter Try.func11, Try.ntmps11
    go_wp2_with (go_at_call 31; (with_reducible refine (CM.out _ (box_b HB0.out)).mono ?_); rintro e w1 ⟨rfl, hbb1⟩; have HB1 := Lib.hid (box_next HB0.out hbb1); clear hbb1; obtain ⟨c0, c1, c2, c3, c4, c5, c6, c7, -⟩ := HBF.out _ HB1)
    go_loopw [11, 12] (fun x11 x12 wr => ∃ (k : Nat) (n : Int), x12 = .int .i64 (k : Int) ∧ x11 = .int .i64 n ∧ k ≤ L ∧ Hid (FT k = some n) ∧ 0 ≤ n ∧ n ≤ (k : Int) * 1099511627777 ∧ Hid (Box w c wr)) (fun _ x _ => L - (intOf x).toNat)
    case atStart => exact ⟨0, 0, rfl, rfl, Nat.zero_le _, HF0.out, Int.le_refl _, by simp, HB1.out⟩
    case round =>
      obtain ⟨k, n, rfl, rfl, hk, HK, hn0, hn1, HB⟩ := hrel
      obtain ⟨c0, c1, c2, c3, c4, c5, c6, c7, r3, hyr⟩ := HBF.out _ HB
      by_cases hkl : k < L
      · have dk : decide ((k : Int) < (L : Int)) = true := decide_eq_true (by omega)
        have hk0 : (0 : Int) ≤ (k : Int) := by omega
        have hk1 : (k : Int) < (L : Int) := by omega
        obtain ⟨rb, ro, rfl, hrl, hrc⟩ := HA.out k (by rw [hLe.out]; exact hkl)
        have x0 := ((box_b HB.out).cell (p := ⟨rb, ro + k, none⟩) hrl).trans hrc
        have hrs : rb < wr.heap.size := Nat.lt_of_lt_of_le hrl (box_b HB.out).size
        have HF1 := Lib.hid (HF.out k n HK.out)
        have CTk := Lib.hid (fun W h => CT.out W k hkl h)
        generalize l.getD k 0 = q at *
        by_cases hp : 0 < q
        · have dp : decide (0 < q) = true := decide_eq_true hp
          have HF2 := HF1.out
          rw [if_pos hp] at HF2
          have HF2 := Lib.hid HF2
          have hbb := bay_bounds rate (timeJ c k l level)
          generalize timeJ c k l level = T at *
          clear hrc HF1
          by_cases ht : 1099511627776 < T
          · have dt : decide (1099511627776 < T) = true := decide_eq_true ht
            have HVf : Hid (V = (0, 5)) := HFN.out (k + 1) (by rw [HF2.out, if_pos ht]) (by omega)
            go_wp2_with (first
            | (go_at_call 33; (with_reducible refine (CTk.out _ (box_b HB.out)).mono ?_); rintro e w2 ⟨rfl, hb2⟩; have HB2 := Lib.hid (box_next HB.out hb2); clear hb2; clear c0 c1 c2 c3 c4 c5 c6 c7 r3 hyr; obtain ⟨c0, c1, c2, c3, c4, c5, c6, c7, r3, hyr⟩ := HBF.out _ HB2)
            | (go_at_call 35; (with_reducible refine (CB.out _ T).mono ?_); rintro e w3 ⟨rfl, hb3⟩; have HB3 := Lib.hid (box_next HB2.out hb3); clear hb3))
            go_ret2
            exact ⟨by rw [HVf.out]; rfl, box_b HB2.out⟩
          · have dt : decide (1099511627776 < T) = false := decide_eq_false ht
            have HF3 : Hid (FT (k + 1) = some (n + (bayV rate T).1)) := by show _ = _; rw [HF2.out, if_neg ht]
            obtain ⟨m, hm⟩ : ∃ m, (bayV rate T).1 = m := ⟨_, rfl⟩
            have CB := Lib.hid (fun W => CB.out W T)
            rw [hm] at hbb HF3 CB
            obtain ⟨hm0, hm1⟩ := hbb
            have hs0 : 0 ≤ n + m := by omega
            have hs1 : n + m ≤ ((k + 1 : Nat) : Int) * 1099511627777 := by push_cast; omega
            have hs2 : n + m ≤ 9223372036854775807 := by omega
            go_wp2_with (first
            | (go_at_call 33; (with_reducible refine (CTk.out _ (box_b HB.out)).mono ?_); rintro e w2 ⟨rfl, hb2⟩; have HB2 := Lib.hid (box_next HB.out hb2); clear hb2; clear c0 c1 c2 c3 c4 c5 c6 c7 r3 hyr; obtain ⟨c0, c1, c2, c3, c4, c5, c6, c7, r3, hyr⟩ := HBF.out _ HB2)
            | (go_at_call 35; (with_reducible refine (CB.out _).mono ?_); rintro e w3 ⟨rfl, hb3⟩; have HB3 := Lib.hid (box_next HB2.out hb3); clear hb3))
            go_roundw
            case rel => exact ⟨k + 1, n + m, by go_num, by go_num, by omega, HF3.out, hs0, hs1, HB3.out⟩
            case measure => simp [intOf]; omega
        · have dp : decide (0 < q) = false := decide_eq_false hp
          have HF2 := HF1.out
          rw [if_neg hp] at HF2
          have HF2 := Lib.hid HF2
          clear hrc HF1
          go_wp2
          go_roundw
          case rel => exact ⟨k + 1, n, by go_num, rfl, by omega, HF2.out, hn0, by push_cast; omega, HB.out⟩
          case measure => simp [intOf]; omega
      · have dk : decide ((k : Int) < (L : Int)) = false := decide_eq_false (by omega)
        have hk1 : ¬ (k : Int) < (L : Int) := by omega
        have hkL : k = L := by omega
        subst hkL
        have HVf : Hid (V = (n, 0)) := HFS.out n HK.out
        go_wp2
        go_ret2
        exact ⟨by rw [HVf.out]; rfl, box_b HB.out⟩
  · have HV : Hid (feeV c bay l level = (0, mayV c bay l level)) := by
      show _ = _
      unfold feeV
      rw [if_pos hm]
    rw [HV.out]
    have dm : (mayV c bay l level != 0) = true := bne_iff_ne.2 hm
    generalize mayV c bay l level = M at *
    clear hc ha HV
    unfold CatIn.val at *
    go_enter Try.func11, Try.ntmps11
    go_wp2_with (go_at_call 31; (with_reducible refine (CM.out _ (box_b HB0.out)).mono ?_); rintro e w1 ⟨rfl, hb1⟩)
    go_ret2
    exact ⟨rfl, below2 (box_b HB0.out) hb1⟩
end Quo
end Go.Proofs.Ytiabnjmblcogmaa
end
section
namespace Go.Proofs.Ytiabnjmblcogmaa
open Go.RowKit
namespace Quo
open Cat (CatIn BayIn chkC nob noy makerV Cam Box box_new box_b box_next box_flat Blues)
open Rec (BlueIn Stk)
open Pen (below2 below_al below_dN)
/-- Behind some bays: why it is not told; the best one; what it asks. -/
def cheapTo (c : CatIn) (l : List Int) (level : Int) : Nat → Int × Int × Int
  | 0 => (0, 0, 0)
  | i + 1 =>
    if (cheapTo c l level i).1 ≠ 0 then cheapTo c l level i
    else if (c.bays.getD i noy).make = 0 then cheapTo c l level i
    else if (feeV c ((i : Int) + 1) l level).2 ≠ 0 then ((feeV c ((i : Int) + 1) l level).2, 0, 0)
    else if (cheapTo c l level i).2.1 = 0 ∨ (feeV c ((i : Int) + 1) l level).1 < (cheapTo c l level i).2.2 then (0, (i : Int) + 1, (feeV c ((i : Int) + 1) l level).1)
    else cheapTo c l level i
def cheapV (c : CatIn) (l : List Int) (level : Int) : Int × Int :=
  if chkC c ≠ 0 then (0, chkC c)
  else if (cheapTo c l level c.bays.length).1 ≠ 0 then (0, (cheapTo c l level c.bays.length).1)
  else if (cheapTo c l level c.bays.length).2.1 = 0 then (0, 3)
  else ((cheapTo c l level c.bays.length).2.1, 0)
theorem cheap_stays {c : CatIn} {l : List Int} {level : Int} {k : Nat} (h : (cheapTo c l level k).1 ≠ 0) : ∀ n, k ≤ n → cheapTo c l level n = cheapTo c l level k := by
  intro n hn
  induction n with
  | zero => rw [show k = 0 by omega]
  | succ n ih =>
    by_cases hk : k = n + 1
    · rw [hk]
    · have h2 := ih (by omega)
      rw [cheapTo, if_pos (by rw [h2]; exact h), h2]
set_option maxRecDepth 100000 in
set_option maxHeartbeats 4000000 in
theorem refCheapest_any (c : CatIn) (w : World) (hc : Cam w c) (a : Option Addr) (cap : Nat) (l : List Int) (hl : l.length ≤ 20) (ha : In.Ints .i64 w a l) (level : Int) :
    Calls Try.prog 13 #[.agg c.val, .slice a l.length cap, .int .i64 level] w fun e w' => e = .returned (.tuple #[.int .i64 (cheapV c l level).1, .int .i64 (cheapV c l level).2]) ∧ Below w.heap.size w w' := by
  have HB0 := Lib.hid (box_new w c 27)
  have CC : Hid (∀ W, Below w.heap.size w W → Calls Try.prog 37 #[.agg c.val] W fun e w' => e = .returned (.int .i64 (chkC c)) ∧ Below W.heap.size W w') := fun W h => Cat.refCheck_any c W (hc.below h)
  have CF : Hid (∀ W (i : Nat), Below w.heap.size w W → Calls Try.prog 11 #[.agg c.val, .int .i64 ((i : Int) + 1), .slice a l.length cap, .int .i64 level] W fun e w' => e = .returned (.tuple #[.int .i64 (feeV c ((i : Int) + 1) l level).1, .int .i64 (feeV c ((i : Int) + 1) l level).2]) ∧ Below W.heap.size W w') := fun W i h => refFee_any c W (hc.below h) _ a cap l hl (ha.below h) level
  have HY := Lib.hid hc.lies.2.1
  have hny := hc.small.2.1
  by_cases hm : chkC c = 0
  · rw [hm] at CC
    have HV : Hid (cheapV c l level = if (cheapTo c l level c.bays.length).1 ≠ 0 then (0, (cheapTo c l level c.bays.length).1) else if (cheapTo c l level c.bays.length).2.1 = 0 then (0, 3) else ((cheapTo c l level c.bays.length).2.1, 0)) := by
      show _ = _
      unfold cheapV
      rw [if_neg (by simpa using hm)]
    have HS : Hid (∀ k, cheapTo c l level (k + 1) = if (cheapTo c l level k).1 ≠ 0 then cheapTo c l level k else if (c.bays.getD k noy).make = 0 then cheapTo c l level k else if (feeV c ((k : Int) + 1) l level).2 ≠ 0 then ((feeV c ((k : Int) + 1) l level).2, 0, 0) else if (cheapTo c l level k).2.1 = 0 ∨ (feeV c ((k : Int) + 1) l level).1 < (cheapTo c l level k).2.2 then (0, (k : Int) + 1, (feeV c ((k : Int) + 1) l level).1) else cheapTo c l level k) := fun k => by rw [cheapTo]
    have HE : Hid (∀ k, (cheapTo c l level k).1 ≠ 0 → k ≤ c.bays.length → cheapV c l level = (0, (cheapTo c l level k).1)) := fun k h hk => by
      rw [HV.out, cheap_stays h _ hk, if_pos h]
    have H0 : Hid (cheapTo c l level 0 = (0, 0, 0)) := rfl
    clear hm
    generalize cheapV c l level = V at *
    generalize cheapTo c l level = CT at *
    unfold CatIn.val at *
    clear hc ha
    go_enter Try.func13, Try.ntmps13
    go_wp2_with (go_at_call 37; (with_reducible refine (CC.out _ (box_b HB0.out)).mono ?_); rintro e w1 ⟨rfl, hbb1⟩; have HB1 := Lib.hid (box_next HB0.out hbb1); clear hbb1)
    go_loopw [9, 10, 11] (fun x9 x10 x11 wr => ∃ (k : Nat) (b m : Int), x11 = .int .i64 ((k : Int) + 1) ∧ x9 = .int .i64 b ∧ x10 = .int .i64 m ∧ k ≤ c.bays.length ∧ Hid (CT k = (0, b, m)) ∧ Hid (Box w c wr)) (fun _ _ x _ => c.bays.length + 1 - (intOf x).toNat)
    case atStart => exact ⟨0, 0, 0, rfl, rfl, rfl, Nat.zero_le _, H0.out, HB1.out⟩
    case round =>
      obtain ⟨k, b, m, rfl, rfl, rfl, hk, HK, HB⟩ := hrel
      obtain ⟨c0, c1, c2, c3, c4, c5, c6, c7, -⟩ := box_flat HB
      by_cases hkl : k < c.bays.length
      · have dk : decide ((k : Int) + 1 ≤ (c.bays.length : Int)) = true := decide_eq_true (by omega)
        have hk0 : (0 : Int) ≤ (k : Int) := by omega
        have hk1 : (k : Int) < (c.bays.length : Int) := by omega
        have hk2 : (k : Int) + 1 ≤ (c.bays.length : Int) := by omega
        obtain ⟨yb, yo, hya, hyl, y0, y1, y2, y3⟩ := HY.out k hkl
        rw [hya] at c3
        have r1 := ((box_b HB.out).cell (p := ⟨yb, yo + k * 4 + 1, none⟩) hyl).trans y1
        have hys : yb < wr.heap.size := Nat.lt_of_lt_of_le hyl (box_b HB.out).size
        have hS := HS.out k
        rw [HK.out] at hS
        dsimp only at hS
        rw [if_neg (by simp)] at hS
        have HS1 := Lib.hid hS
        have CFk := Lib.hid (fun W h => CF.out W k h)
        generalize (c.bays.getD k noy).make = mk at *
        generalize feeV c ((k : Int) + 1) l level = fv at *
        obtain ⟨f1, f2⟩ := fv
        dsimp only at HS1 CFk
        clear hS y0 y1 y2 y3
        rw [hya] at CFk
        clear hya
        by_cases hmk : mk = 0
        · subst hmk
          rw [if_pos rfl] at HS1
          go_wp2
          go_roundw
          case rel => exact ⟨k + 1, b, m, by go_num, rfl, rfl, by omega, HS1.out, HB.out⟩
          case measure => simp [intOf]; omega
        · have dmk : (mk == 0) = false := beq_eq_false_iff_ne.2 hmk
          rw [if_neg hmk] at HS1
          by_cases hf : f2 = 0
          · subst hf
            rw [if_neg (by simp)] at HS1
            by_cases hb : b = 0
            · subst hb
              rw [if_pos (Or.inl rfl)] at HS1
              go_wp2_with (go_at_call 11; (with_reducible refine (CFk.out _ (box_b HB.out)).mono ?_); rintro e w2 ⟨rfl, hb2⟩; have HB2 := Lib.hid (box_next HB.out hb2); clear hb2)
              go_roundw
              case rel => exact ⟨k + 1, (k : Int) + 1, f1, by go_num, rfl, rfl, by omega, HS1.out, HB2.out⟩
              case measure => simp [intOf]; omega
            · have db : (b == 0) = false := beq_eq_false_iff_ne.2 hb
              by_cases hlt : f1 < m
              · have dl : decide (f1 < m) = true := decide_eq_true hlt
                rw [if_pos (Or.inr hlt)] at HS1
                go_wp2_with (go_at_call 11; (with_reducible refine (CFk.out _ (box_b HB.out)).mono ?_); rintro e w2 ⟨rfl, hb2⟩; have HB2 := Lib.hid (box_next HB.out hb2); clear hb2)
                go_roundw
                case rel => exact ⟨k + 1, (k : Int) + 1, f1, by go_num, rfl, rfl, by omega, HS1.out, HB2.out⟩
                case measure => simp [intOf]; omega
              · have dl : decide (f1 < m) = false := decide_eq_false hlt
                rw [if_neg (by rintro (h | h); exact hb h; exact hlt h)] at HS1
                go_wp2_with (go_at_call 11; (with_reducible refine (CFk.out _ (box_b HB.out)).mono ?_); rintro e w2 ⟨rfl, hb2⟩; have HB2 := Lib.hid (box_next HB.out hb2); clear hb2)
                go_roundw
                case rel => exact ⟨k + 1, b, m, by go_num, rfl, rfl, by omega, HS1.out, HB2.out⟩
                case measure => simp [intOf]; omega
          · have df : (f2 != 0) = true := bne_iff_ne.2 hf
            rw [if_pos hf] at HS1
            have HVf : Hid (V = (0, f2)) := by
              have := HE.out (k + 1) (by rw [HS1.out]; exact hf) (by omega)
              rw [HS1.out] at this
              exact this
            go_wp2_with (go_at_call 11; (with_reducible refine (CFk.out _ (box_b HB.out)).mono ?_); rintro e w2 ⟨rfl, hb2⟩; have HB2 := Lib.hid (box_next HB.out hb2); clear hb2)
            go_ret2
            exact ⟨by rw [HVf.out]; rfl, box_b HB2.out⟩
      · have dk : decide ((k : Int) + 1 ≤ (c.bays.length : Int)) = false := decide_eq_false (by omega)
        have hk1 : ¬ (k : Int) + 1 ≤ (c.bays.length : Int) := by omega
        have hkL : k = c.bays.length := by omega
        subst hkL
        have hV := HV.out
        rw [HK.out] at hV
        dsimp only at hV
        rw [if_neg (by simp)] at hV
        by_cases hb : b = 0
        · rw [if_pos hb] at hV
          have HVf := Lib.hid hV
          subst hb
          clear hV
          go_wp2
          go_ret2
          exact ⟨by rw [HVf.out]; rfl, box_b HB.out⟩
        · rw [if_neg hb] at hV
          have HVf := Lib.hid hV
          have db : (b == 0) = false := beq_eq_false_iff_ne.2 hb
          clear hV
          go_wp2
          go_ret2
          exact ⟨by rw [HVf.out]; rfl, box_b HB.out⟩
  · have HV : Hid (cheapV c l level = (0, chkC c)) := by
      show _ = _
      unfold cheapV
      rw [if_pos hm]
    rw [HV.out]
    have dm : (chkC c != 0) = true := bne_iff_ne.2 hm
    generalize chkC c = M at *
    clear hc ha HV
    unfold CatIn.val at *
    go_enter Try.func13, Try.ntmps13
    go_wp2_with (go_at_call 37; (with_reducible refine (CC.out _ (box_b HB0.out)).mono ?_); rintro e w1 ⟨rfl, hb1⟩)
    go_ret2
    exact ⟨rfl, below2 (box_b HB0.out) hb1⟩
end Quo
end Go.Proofs.Ytiabnjmblcogmaa
end
section
namespace Go.Proofs.Ytiabnjmblcogmaa
open Go.RowKit
namespace Quo
open Rec (Stk Stks ext_stk below_dN)
set_option maxHeartbeats 1000000 in
theorem sameSpans_any (a b : Option Addr) (c1 c2 : Nat) (l m : List Stk) (hl : l.length ≤ 4096) (hm : m.length ≤ 4096) (w : World) (ha : Stks w a l) (hb : Stks w b m) :
    Calls Try.prog 14 #[.slice a l.length c1, .slice b m.length c2] w fun e w' => e = .returned (.bool (decide (l = m))) ∧ Below w.heap.size w w' := by
  have HA := Lib.hid ha
  have HB := Lib.hid hb
  clear ha hb
  by_cases hlen : l.length = m.length
  · rw [← hlen]
    have HLEN := Lib.hid hlen
    clear hlen
    go_enter Try.func14, Try.ntmps14
    go_wp2
    go_loopw [5] (fun i wr => ∃ k : Nat, k ≤ l.length ∧ i = .int .i64 k ∧ Hid (∀ j, j < k → l.getD j (0, 0) = m.getD j (0, 0)) ∧ Below w.heap.size w wr) (fun i _ => l.length - (intOf i).toNat)
    case atStart => exact ⟨0, by omega, rfl, fun j hj => by omega, Below.refl _ _⟩
    case round =>
      obtain ⟨k, hk, rfl, HE, hb⟩ := hrel
      by_cases hlt : k < l.length
      · obtain ⟨b1, o1, rfl, hbl1, hc1, hd1⟩ := (Stks.below HA.out hb) k hlt
        obtain ⟨b2, o2, rfl, hbl2, hc2, hd2⟩ := (Stks.below HB.out hb) k (by rw [← HLEN.out]; exact hlt)
        have hlt1 : (k : Int) < (l.length : Int) := by omega
        have e1 : decide ((k : Int) < (l.length : Int)) = true := decide_eq_true hlt1
        have hy : Hid ((l.getD k (0, 0)).1 = (m.getD k (0, 0)).1 ∧ (l.getD k (0, 0)).2 = (m.getD k (0, 0)).2 → ∀ j, j < k + 1 → l.getD j (0, 0) = m.getD j (0, 0)) := fun h j hj => by
          by_cases e : j = k
          · subst e; exact Prod.ext h.1 h.2
          · exact HE.out j (by omega)
        have hn : Hid (¬ ((l.getD k (0, 0)).1 = (m.getD k (0, 0)).1 ∧ (l.getD k (0, 0)).2 = (m.getD k (0, 0)).2) → decide (l = m) = false) := fun h => decide_eq_false fun e => h (by subst e; exact ⟨rfl, rfl⟩)
        generalize (l.getD k (0, 0)).1 = T1 at *
        generalize (l.getD k (0, 0)).2 = Q1 at *
        generalize (m.getD k (0, 0)).1 = T2 at *
        generalize (m.getD k (0, 0)).2 = Q2 at *
        by_cases g1 : T1 = T2
        · subst g1
          by_cases g2 : Q1 = Q2
          · subst g2
            have HY := Lib.hid (hy.out ⟨rfl, rfl⟩)
            go_wp2
            go_quiet (fail)
            go_wp2
            go_roundw
            case rel => exact ⟨k + 1, by omega, by go_num, HY, below_dN hb _⟩
            case measure => simp [intOf]; omega
          · have d2 : (Q1 == Q2) = false := beq_eq_false_iff_ne.2 g2
            have HN := Lib.hid (hn.out fun h => g2 h.2)
            go_wp2
            go_quiet (fail)
            go_wp2
            go_ret
            exact ⟨by rw [HN.out]; rfl, below_dN hb _⟩
        · have d1 : (T1 == T2) = false := beq_eq_false_iff_ne.2 g1
          have HN := Lib.hid (hn.out fun h => g1 h.1)
          go_wp2
          go_quiet (fail)
          go_wp2
          go_ret
          exact ⟨by rw [HN.out]; rfl, below_dN hb _⟩
      · have hke : k = l.length := by omega
        rw [hke] at HE
        have HN : Hid (decide (l = m) = true) := decide_eq_true (ext_stk l m HLEN.out HE.out)
        have n1 : ¬ (k : Int) < (l.length : Int) := by omega
        have e1 : decide ((k : Int) < (l.length : Int)) = false := decide_eq_false n1
        clear hke
        go_wp2
        go_ret
        exact ⟨by rw [HN.out]; rfl, hb⟩
  · have dl : ((l.length : Int) == (m.length : Int)) = false := beq_eq_false_iff_ne.2 (by omega)
    have hlen' : ¬ (l.length : Int) = (m.length : Int) := by omega
    have HN : Hid (decide (l = m) = false) := decide_eq_false fun e => hlen (by rw [e])
    go_enter Try.func14, Try.ntmps14
    go_wp2
    go_ret
    exact ⟨by rw [HN.out]; rfl, Below.refl _ _⟩
end Quo
end Go.Proofs.Ytiabnjmblcogmaa
end
section
namespace Go.Proofs.Ytiabnjmblcogmaa
open Go.RowKit
namespace Quo
open In (Ints)
theorem made1_any (n : Int) (w : World) : Calls Try.prog 46 #[.int .i64 n] w fun e w' => e = .returned (.bool (!runOk n)) ∧ w = w' := by
  have HR : Hid (runOk n = (decide (0 ≤ n) && decide (n ≤ 1000))) := rfl
  generalize runOk n = R at *
  by_cases h1 : n < 0
  · have d1 : decide (n < 0) = true := decide_eq_true h1
    have HF : Hid (R = false) := by show R = false; rw [HR.out, decide_eq_false (show ¬ 0 ≤ n by omega)]; rfl
    go_enter Try.func46, Try.ntmps46
    go_wp2
    go_ret
    exact ⟨by rw [HF.out]; rfl, rfl⟩
  · have d1 : decide (n < 0) = false := decide_eq_false h1
    by_cases h2 : 1000 < n
    · have d2 : decide (1000 < n) = true := decide_eq_true h2
      have HF : Hid (R = false) := by show R = false; rw [HR.out, decide_eq_false (show ¬ n ≤ 1000 by omega), Bool.and_false]
      go_enter Try.func46, Try.ntmps46
      go_wp2
      go_ret
      exact ⟨by rw [HF.out]; rfl, rfl⟩
    · have d2 : decide (1000 < n) = false := decide_eq_false h2
      have HF : Hid (R = true) := by show R = true; rw [HR.out, decide_eq_true (show 0 ≤ n by omega), decide_eq_true (show n ≤ 1000 by omega)]; rfl
      go_enter Try.func46, Try.ntmps46
      go_wp2
      go_ret
      exact ⟨by rw [HF.out]; rfl, rfl⟩
theorem any_at {α : Type} (P : α → Bool) (l : List α) (d : α) (k : Nat) (hk : k < l.length) (h : P (l.getD k d) = true) : l.any P = true := any_take P l d k hk h
set_option maxHeartbeats 1000000 in
theorem indexMade_any (a : Option Addr) (cap : Nat) (l : List Int) (hl : l.length ≤ 4096) (w : World) (ha : Ints .i64 w a l) :
    Calls Try.prog 49 #[.slice a l.length cap, .func (.func 46) #[] #[]] w fun e w' => (∃ i : Int, e = .returned (.int .i64 i) ∧ decide (0 ≤ i) = l.any fun n => !runOk n) ∧ w = w' := by
  have HA := Lib.hid ha
  clear ha
  obtain ⟨R, hR⟩ : ∃ R, Hid ((l.any fun n => !runOk n) = R) := ⟨_, rfl⟩
  rw [hR.out]
  go_enter Try.func49, Try.ntmps49
  go_wp2
  go_loop [8] (fun i => ∃ k : Nat, k ≤ l.length ∧ i = .int .i64 k ∧ Hid (∀ j, j < k → (!runOk (l.getD j 0)) = false)) (fun i => l.length - (intOf i).toNat)
  case atStart => exact ⟨0, by omega, rfl, fun j hj => absurd hj (Nat.not_lt_zero j)⟩
  case round =>
    obtain ⟨k, hk, rfl, HM⟩ := hrel
    by_cases hlt : k < l.length
    · obtain ⟨b, off, rfl, hbl, hc⟩ := HA.out k hlt
      have hlt1 : (k : Int) < (l.length : Int) := by omega
      have CC := Lib.hid (made1_any (l.getD k 0))
      have HY : Hid ((!runOk (l.getD k 0)) = true → R = true) := fun h => by rw [← hR.out]; exact any_take (fun n => !runOk n) l 0 k hlt h
      have HN : Hid ((!runOk (l.getD k 0)) = false → ∀ j, j < k + 1 → (!runOk (l.getD j 0)) = false) := fun h j hj => by
        by_cases hjk : j = k
        · rw [hjk]; exact h
        · exact HM.out j (by omega)
      generalize (!runOk (l.getD k 0)) = B at *
      generalize l.getD k 0 = T at *
      cases B
      · replace HN := Lib.hid (HN.out rfl)
        go_wp2_with (go_at_call 46; ((with_reducible refine (CC.out _).mono ?_); rintro e w1 ⟨rfl, rfl⟩))
        go_round
        case rel => exact ⟨k + 1, by omega, by go_num, HN.out⟩
        case measure => simp [intOf]; omega
      · replace HY := Lib.hid (HY.out rfl)
        go_wp2_with (go_at_call 46; ((with_reducible refine (CC.out _).mono ?_); rintro e w1 ⟨rfl, rfl⟩))
        go_ret
        exact ⟨⟨(k : Int), rfl, by rw [HY.out]; exact decide_eq_true (by omega)⟩, rfl⟩
    · have hke : Hid (R = false) := by show R = false; rw [← hR.out]; exact any_none (fun n => !runOk n) l 0 fun j hj => HM.out j (by omega)
      go_wp2
      go_ret
      exact ⟨⟨-1, rfl, by rw [hke.out]; rfl⟩, rfl⟩
theorem containsMade_any (a : Option Addr) (cap : Nat) (l : List Int) (hl : l.length ≤ 4096) (w : World) (ha : Ints .i64 w a l) :
    Calls Try.prog 23 #[.slice a l.length cap, .func (.func 46) #[] #[]] w fun e w' => e = .returned (.bool (l.any fun n => !runOk n)) ∧ w = w' := by
  have CC := Lib.hid (indexMade_any a cap l hl w ha)
  clear hl ha
  generalize (l.any fun n => !runOk n) = B at *
  go_enter Try.func23, Try.ntmps23
  go_wp2_with (go_at_call 49; ((with_reducible refine CC.out.mono ?_); rintro e w1 ⟨⟨i, rfl, hi⟩, rfl⟩))
  go_ret
  exact ⟨by rfl, rfl⟩
end Quo
end Go.Proofs.Ytiabnjmblcogmaa
end
section
namespace Go.Proofs.Ytiabnjmblcogmaa
open Go.RowKit
namespace Quo
open Cat (CatIn BayIn chkC nob noy makerV Cam Box box_new box_b box_next box_flat Blues)
open Rec (BlueIn Stk)
open Pen (below2 below_al below_dN)
theorem time_le (b : BlueIn) (x y : Int) : 0 ≤ (Rec.timeV b x y).1 ∧ (Rec.timeV b x y).1 ≤ 109951162777600099 := by
  unfold Rec.timeV
  split
  · rename_i h
    obtain ⟨hK, ⟨hx1, hx2⟩, hy1, hy2⟩ := Rec.ok2_yes h
    obtain ⟨_, _, _, ⟨ht1, ht2⟩, _⟩ := Rec.bchk_ok b 32 hK
    have hP := Rec.mul_bd (show 0 ≤ b.time by omega) ht2 (show 0 ≤ y by omega) hy2
    have hQ := Rec.mul_bd hP.1 hP.2 (show 0 ≤ 100 - 2 * x by omega) (show 100 - 2 * x ≤ 100 by omega)
    show 0 ≤ Rec.upI _ 100 ∧ Rec.upI _ 100 ≤ _
    have h1 := Rec.upI_nonneg _ 100 hQ.1 (by omega)
    have h2 := Rec.upI_le _ 100 hQ.1 (by omega)
    exact ⟨h1, by omega⟩
  · exact ⟨Int.le_refl _, by show (0 : Int) ≤ _; decide⟩
/-- What is told of runs, ahead of how long they take. -/
def mayB (c : CatIn) (level : Int) : Int := if chkC c ≠ 0 then chkC c else if c.types < 1 then 1 else if level < 0 ∨ 10 < level then 1 else 0
theorem chk_nil (t : Int) : Rec.chk [] t = 0 := rfl
set_option maxRecDepth 100000 in
set_option maxHeartbeats 4000000 in
theorem mayB_any (c : CatIn) (w : World) (hc : Cam w c) (level : Int) :
    Calls Try.prog 42 #[.agg c.val, .int .i64 1, .int .i64 level, .slice none 0 0] w fun e w' => e = .returned (.int .i64 (mayB c level)) ∧ Below w.heap.size w w' := by
  have HB0 := Lib.hid (box_new w c 27)
  have CC : Hid (∀ W, Below w.heap.size w W → Calls Try.prog 37 #[.agg c.val] W fun e w' => e = .returned (.int .i64 (chkC c)) ∧ Below W.heap.size W w') := fun W h => Cat.refCheck_any c W (hc.below h)
  have CG : Hid (∀ W, Calls Try.prog 65 #[.slice none 0 0, .int .i64 c.types] W fun e w' => e = .returned (.int .i64 0) ∧ Below W.heap.size W w') := fun W => Rec.refCheck_any none 0 [] (by decide) c.types W (fun i hi => absurd hi (Nat.not_lt_zero i))
  have HS : Hid (mayB c level = if chkC c ≠ 0 then chkC c else if c.types < 1 then 1 else if level < 0 ∨ 10 < level then 1 else 0) := rfl
  generalize mayB c level = V at *
  generalize chkC c = K at *
  clear hc
  unfold CatIn.val at *
  by_cases hK : K = 0
  · subst hK
    have HS1 : Hid (V = if c.types < 1 then 1 else if level < 0 ∨ 10 < level then 1 else 0) := by show V = _; rw [HS.out, if_neg (by simp)]
    clear HS
    by_cases h1 : c.types < 1
    · have d1 : decide (c.types < 1) = true := decide_eq_true h1
      have HV : Hid (V = 1) := by show V = 1; rw [HS1.out, if_pos h1]
      go_enter Try.func42, Try.ntmps42
      go_wp2_with (go_at_call 37; (with_reducible refine (CC.out _ (box_b HB0.out)).mono ?_); rintro e w1 ⟨rfl, hb1⟩; have HB1 := Lib.hid (box_next HB0.out hb1); clear hb1; obtain ⟨c0, c1, c2, c3, c4, c5, c6, c7, -⟩ := box_flat HB1)
      go_ret
      exact ⟨by rw [HV.out]; rfl, box_b HB1.out⟩
    · have d1 : decide (c.types < 1) = false := decide_eq_false h1
      have HS2 : Hid (V = if level < 0 ∨ 10 < level then 1 else 0) := by show V = _; rw [HS1.out, if_neg h1]
      clear HS1
      by_cases h3 : level < 0
      · have d3 : decide (level < 0) = true := decide_eq_true h3
        have HV : Hid (V = 1) := by show V = 1; rw [HS2.out, if_pos (Or.inl h3)]
        go_enter Try.func42, Try.ntmps42
        go_wp2_with (go_at_call 37; (with_reducible refine (CC.out _ (box_b HB0.out)).mono ?_); rintro e w1 ⟨rfl, hb1⟩; have HB1 := Lib.hid (box_next HB0.out hb1); clear hb1; obtain ⟨c0, c1, c2, c3, c4, c5, c6, c7, -⟩ := box_flat HB1)
        go_ret
        exact ⟨by rw [HV.out]; rfl, box_b HB1.out⟩
      · have d3 : decide (level < 0) = false := decide_eq_false h3
        by_cases h4 : 10 < level
        · have d4 : decide (10 < level) = true := decide_eq_true h4
          have HV : Hid (V = 1) := by show V = 1; rw [HS2.out, if_pos (Or.inr h4)]
          go_enter Try.func42, Try.ntmps42
          go_wp2_with (go_at_call 37; (with_reducible refine (CC.out _ (box_b HB0.out)).mono ?_); rintro e w1 ⟨rfl, hb1⟩; have HB1 := Lib.hid (box_next HB0.out hb1); clear hb1; obtain ⟨c0, c1, c2, c3, c4, c5, c6, c7, -⟩ := box_flat HB1)
          go_ret
          exact ⟨by rw [HV.out]; rfl, box_b HB1.out⟩
        · have d4 : decide (10 < level) = false := decide_eq_false h4
          have HV : Hid (V = 0) := by
            show V = 0
            rw [HS2.out, if_neg]
            rintro (h | h)
            · exact h3 h
            · exact h4 h
          go_enter Try.func42, Try.ntmps42
          go_wp2_with (first
            | (go_at_call 37; (with_reducible refine (CC.out _ (box_b HB0.out)).mono ?_); rintro e w1 ⟨rfl, hb1⟩; have HB1 := Lib.hid (box_next HB0.out hb1); clear hb1; obtain ⟨c0, c1, c2, c3, c4, c5, c6, c7, -⟩ := box_flat HB1)
            | (go_at_call 65; (with_reducible refine (CG.out _).mono ?_); rintro e w2 ⟨rfl, hb2⟩; have HB2 := Lib.hid (box_next HB1.out hb2); clear hb2))
          go_ret
          exact ⟨by rw [HV.out]; rfl, box_b HB2.out⟩
  · have HV : Hid (V = K) := by show V = K; rw [HS.out, if_pos hK]
    have dK : (K != 0) = true := bne_iff_ne.2 hK
    go_enter Try.func42, Try.ntmps42
    go_wp2_with (go_at_call 37; (with_reducible refine (CC.out _ (box_b HB0.out)).mono ?_); rintro e w1 ⟨rfl, hb1⟩; have HB1 := Lib.hid (box_next HB0.out hb1); clear hb1)
    go_ret
    exact ⟨by rw [HV.out]; rfl, box_b HB1.out⟩
end Quo
end Go.Proofs.Ytiabnjmblcogmaa
end
