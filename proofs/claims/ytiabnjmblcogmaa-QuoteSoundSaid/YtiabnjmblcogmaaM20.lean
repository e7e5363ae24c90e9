/- Texts put together: QuoU, QuoB, QuoV. -/
import Derived.Test.YtiabnjmblcogmaaM19
set_option linter.all false
section
namespace Go.Proofs.Ytiabnjmblcogmaa
open Go.RowKit
namespace Quo
open Cat (CatIn BayIn chkC nob noy makerV Cam Box box_new box_b box_next box_flat)
open Rec (BlueIn Stk)
open Pen (below2 below_al below_dN)
open Fee (bayV)
theorem times_of {c : CatIn} {l : List Int} {level : Int} {n base : Nat} {w : World} {L : List JobIn} (h : JobsOk c l level n w base L) : L.map (·.time) = jobTimes c l level n := by
  unfold jobTimes
  rw [← h.blues, List.map_map]
  apply List.map_congr_left
  intro j hj
  exact h.time j hj
theorem feeV_jobs {c : CatIn} {bay : Int} {l : List Int} {level : Int} {n base : Nat} {w : World} {L : List JobIn} (hm : mayV c bay l level = 0) (h : JobsOk c l level c.blues.length w base L) : feeV c bay l level = feeJV (rateOf c bay) (L.map (·.time)) := by
  obtain ⟨-, -, -, hr, -, -⟩ := mayV_ok hm
  unfold feeV feeJV
  rw [if_neg (by simpa using hm), feeTo_jobs (fun k hk => (run_of hr k hk).1), times_of h]
  rfl
set_option maxRecDepth 100000 in
set_option maxHeartbeats 4000000 in
theorem fee_any (c : CatIn) (w : World) (hc : Cam w c) (bay : Int) (a : Option Addr) (cap : Nat) (l : List Int) (hl : l.length ≤ 20) (ha : In.Ints .i64 w a l) (level : Int) :
    Calls Try.prog 10 #[.agg c.val, .int .i64 bay, .slice a l.length cap, .int .i64 level] w fun e w' => e = .returned (.tuple #[.int .i64 (feeV c bay l level).1, .int .i64 (feeV c bay l level).2]) ∧ Below w.heap.size w w' := by
  have HB0 := Lib.hid (box_new w c 27)
  by_cases hm : mayV c bay l level = 0
  · obtain ⟨hK, hb1, hb2, hr, -, -⟩ := mayV_ok hm
    have CM : Hid (∀ W, Below w.heap.size w W → Calls Try.prog 19 #[.agg c.val, .int .i64 bay, .slice a l.length cap, .int .i64 level] W (Made c l level (c.bays.getD (bay.toNat - 1) noy) c.blues.length W)) := fun W h => made_yes c W (hc.below h) bay a cap l hl (ha.below h) level hm
    have hrt : (0 ≤ (c.bays.getD (bay.toNat - 1) noy).rate ∧ (c.bays.getD (bay.toNat - 1) noy).rate ≤ 10000) := (bay_of hK (by omega)).2
    have HF : Hid (∀ (W : World) base L, JobsOk c l level c.blues.length W base L → feeV c bay l level = feeJV (c.bays.getD (bay.toNat - 1) noy).rate (L.map (·.time))) := fun W base L h => feeV_jobs (n := 0) hm h
    have CF : Hid (∀ (W : World) base g L v, Shop c l level (c.bays.getD (bay.toNat - 1) noy) c.blues.length c.blues.length base g L v W → Calls Try.prog 34 #[.pointer (some ⟨g, 0, none⟩)] W fun e w' => e = .returned (.tuple #[.int .i64 (feeV c bay l level).1, .int .i64 (feeV c bay l level).2]) ∧ Below W.heap.size W w') := fun W base g L v h => by
      have hlen := h.jobs.len
      have := runsOk_len hr
      rw [HF.out W _ L h.jobs]
      exact shopFee_any h (by omega) hrt
    clear HF
    generalize feeV c bay l level = V at *
    generalize c.bays.getD (bay.toNat - 1) noy = Y at *
    clear hc ha hm hr hK hb2 hrt
    unfold CatIn.val at *
    go_enter Try.func10, Try.ntmps10
    go_wp2_with (first
      | (go_at_call 19; (with_reducible refine (CM.out _ (box_b HB0.out)).mono ?_); rintro e w1 ⟨g, L, v, rfl, HS1, HB1⟩; have HB2 := Lib.hid (box_next HB0.out HB1.out))
      | (go_at_call 34; (with_reducible refine (CF.out _ _ _ _ _ HS1.out).mono ?_); rintro e w2 ⟨rfl, hb2⟩))
    go_ret2
    exact ⟨rfl, below2 (box_b HB2.out) hb2⟩
  · have CM : Hid (∀ W, Below w.heap.size w W → Calls Try.prog 19 #[.agg c.val, .int .i64 bay, .slice a l.length cap, .int .i64 level] W fun e w' => e = .returned (.tuple #[.pointer none, .int .i64 (mayV c bay l level)]) ∧ Below W.heap.size W w') := fun W h => made_no c W (hc.below h) bay a cap l hl (ha.below h) level hm
    have HV : Hid (feeV c bay l level = (0, mayV c bay l level)) := by
      show _ = _
      unfold feeV
      rw [if_pos hm]
    rw [HV.out]
    have dm : (mayV c bay l level != 0) = true := bne_iff_ne.2 hm
    generalize mayV c bay l level = M at *
    clear hc ha HV
    unfold CatIn.val at *
    go_enter Try.func10, Try.ntmps10
    go_wp2_with (go_at_call 19; (with_reducible refine (CM.out _ (box_b HB0.out)).mono ?_); rintro e w1 ⟨rfl, hb1⟩)
    go_ret2
    exact ⟨rfl, below2 (box_b HB0.out) hb1⟩
set_option maxRecDepth 100000 in
set_option maxHeartbeats 4000000 in
theorem cheapest_any (c : CatIn) (w : World) (hc : Cam w c) (a : Option Addr) (cap : Nat) (l : List Int) (hl : l.length ≤ 20) (ha : In.Ints .i64 w a l) (level : Int) :
    Calls Try.prog 12 #[.agg c.val, .slice a l.length cap, .int .i64 level] w fun e w' => e = .returned (.tuple #[.int .i64 (cheapV c l level).1, .int .i64 (cheapV c l level).2]) ∧ Below w.heap.size w w' := by
  have HB0 := Lib.hid (box_new w c 27)
  have CC : Hid (∀ W, Below w.heap.size w W → Calls Try.prog 36 #[.agg c.val] W fun e w' => e = .returned (.int .i64 (chkC c)) ∧ Below W.heap.size W w') := fun W h => Cat.Check_any c W (hc.below h)
  have CF : Hid (∀ W (i : Nat), Below w.heap.size w W → Calls Try.prog 10 #[.agg c.val, .int .i64 ((i : Int) + 1), .slice a l.length cap, .int .i64 level] W fun e w' => e = .returned (.tuple #[.int .i64 (feeV c ((i : Int) + 1) l level).1, .int .i64 (feeV c ((i : Int) + 1) l level).2]) ∧ Below W.heap.size W w') := fun W i h => fee_any c W (hc.below h) _ a cap l hl (ha.below h) level
  have HY := Lib.hid hc.lies.2.1
  have hny := hc.small.2.1
  by_cases hm : chkC c = 0
  · rw [hm] at CC
    have HV : Hid (cheapV c l level = if (cheapTo c l level c.bays.length).1 ≠ 0 then (0, (cheapTo c l level c.bays.length).1) else if (cheapTo c l level c.bays.length).2.1 = 0 then (0, 3) else ((cheapTo c l level c.bays.length).2.1, 0)) := by
      show _ = _
      unfold cheapV
      rw [if_neg (by simpa using hm)]
    have HS : Hid (∀ k, cheapTo c l level (k + 1) = if (cheapTo c l level k).1 ≠ 0 then cheapTo c l level k else if (c.bays.getD k noy).make = 0 then cheapTo c l level k else if (feeV c ((k : Int) + 1) l level).2 ≠ 0 then ((feeV c ((k : Int) + 1) l level).2, 0, 0) else if (cheapTo c l level k).2.1 = 0 ∨ (feeV c ((k : Int) + 1) l level).1 < (cheapTo c l level k).2.2 then (0, (k : Int) + 1, (feeV c ((k : Int) + 1) l level).1) else cheapTo c l level k) := fun k => by rw [cheapTo]
    have HE : Hid (∀ k, (cheapTo c l level k).1 ≠ 0 → k ≤ c.bays.length → cheapV c l level = (0, (cheapTo c l level k).1)) := fun k h hk => by
      rw [HV.out, cheap_stays h _ hk, if_pos h]
    have H0 : Hid (cheapTo c l level 0 = (0, 0, 0)) := rfl
    clear hm
    generalize cheapV c l level = V at *
    generalize cheapTo c l level = CT at *
    clear hc ha
    obtain ⟨types, blues, baddr, bcap, places, bays, yaddr, ycap, chars, broker, least, sales⟩ := c
    unfold CatIn.val at *
    dsimp only at *
    go_enter Try.func12, Try.ntmps12
    go_wp2_with (go_at_call 36; (with_reducible refine (CC.out _ (box_b HB0.out)).mono ?_); rintro e w1 ⟨rfl, hbb1⟩; have HB1 := Lib.hid (box_next HB0.out hbb1); clear hbb1; obtain ⟨c0, c1, c2, c3, c4, c5, c6, c7, -⟩ := box_flat HB1)
    go_loopw [9, 10, 23] (fun x9 x10 x11 wr => ∃ (k : Nat) (b m : Int), x11 = .int .i64 (k : Int) ∧ x9 = .int .i64 b ∧ x10 = .int .i64 m ∧ k ≤ bays.length ∧ Hid (CT k = (0, b, m)) ∧ Hid (Box w ⟨types, blues, baddr, bcap, places, bays, yaddr, ycap, chars, broker, least, sales⟩ wr)) (fun _ _ x _ => bays.length - (intOf x).toNat)
    case atStart => exact ⟨0, 0, 0, rfl, rfl, rfl, Nat.zero_le _, H0.out, HB1.out⟩
    case round =>
      clear c0 c1 c2 c3 c4 c5 c6 c7
      obtain ⟨k, b, m, rfl, rfl, rfl, hk, HK, HB⟩ := hrel
      obtain ⟨c0, c1, c2, c3, c4, c5, c6, c7, -⟩ := box_flat HB
      by_cases hkl : k < bays.length
      · have dk : decide ((k : Int) < (bays.length : Int)) = true := decide_eq_true (by omega)
        have hk0 : (0 : Int) ≤ (k : Int) := by omega
        have hk1 : (k : Int) < (bays.length : Int) := by omega
        have hs2 := HB.out.2.1
        have hk20 : (k : Int) ≤ 20 := by omega
        obtain ⟨yb, yo, rfl, hyl, y0, y1, y2, y3⟩ := HY.out k hkl
        have r0 := ((box_b HB.out).cell (p := ⟨yb, yo + k * 4, none⟩) hyl).trans y0
        have r1 := ((box_b HB.out).cell (p := ⟨yb, yo + k * 4 + 1, none⟩) hyl).trans y1
        have r2 := ((box_b HB.out).cell (p := ⟨yb, yo + k * 4 + 2, none⟩) hyl).trans y2
        have r3 := ((box_b HB.out).cell (p := ⟨yb, yo + k * 4 + 3, none⟩) hyl).trans y3
        have hys : yb < wr.heap.size := Nat.lt_of_lt_of_le hyl (box_b HB.out).size
        have hS := HS.out k
        rw [HK.out] at hS
        dsimp only at hS
        rw [if_neg (by simp)] at hS
        have CFk := Lib.hid (fun W h => CF.out W k h)
        generalize bays.getD k noy = Y at *
        obtain ⟨pl, mk, lb, rt⟩ := Y
        dsimp only at hS r0 r1 r2 r3
        generalize feeV ⟨types, blues, _, bcap, places, bays, _, ycap, chars, broker, least, sales⟩ ((k : Int) + 1) l level = fv at *
        obtain ⟨f1, f2⟩ := fv
        dsimp only at hS CFk
        have HS1 := Lib.hid hS
        clear hS y0 y1 y2 y3
        by_cases hmk : mk = 0
        · subst hmk
          rw [if_pos rfl] at HS1
          have HB2 := Lib.hid (box_next HB.out (below_al (Below.refl wr.heap.size wr) (.cells #[.int .i64 pl, .int .i64 0, .int .i64 lb, .int .i64 rt] 48)))
          go_wp2
          go_roundw
          case rel => exact ⟨k + 1, b, m, by go_num, rfl, rfl, by omega, HS1.out, HB2.out⟩
          case measure => simp [intOf]; omega
        · have dmk : (mk == 0) = false := beq_eq_false_iff_ne.2 hmk
          rw [if_neg hmk] at HS1
          by_cases hf : f2 = 0
          · subst hf
            rw [if_neg (by simp)] at HS1
            by_cases hb : b = 0
            · subst hb
              rw [if_pos (Or.inl rfl)] at HS1
              go_wp2_with (go_at_call 10; (with_reducible refine (CFk.out _ (below_al (box_b HB.out) _)).mono ?_); rintro e w2 ⟨rfl, hb2⟩; have HB2 := Lib.hid (box_next (box_next HB.out (below_al (Below.refl _ _) _)) hb2); clear hb2)
              go_roundw
              case rel => exact ⟨k + 1, (k : Int) + 1, f1, by go_num, rfl, rfl, by omega, HS1.out, HB2.out⟩
              case measure => simp [intOf]; omega
            · have db : (b == 0) = false := beq_eq_false_iff_ne.2 hb
              by_cases hlt : f1 < m
              · have dl : decide (f1 < m) = true := decide_eq_true hlt
                rw [if_pos (Or.inr hlt)] at HS1
                go_wp2_with (go_at_call 10; (with_reducible refine (CFk.out _ (below_al (box_b HB.out) _)).mono ?_); rintro e w2 ⟨rfl, hb2⟩; have HB2 := Lib.hid (box_next (box_next HB.out (below_al (Below.refl _ _) _)) hb2); clear hb2)
                go_roundw
                case rel => exact ⟨k + 1, (k : Int) + 1, f1, by go_num, rfl, rfl, by omega, HS1.out, HB2.out⟩
                case measure => simp [intOf]; omega
              · have dl : decide (f1 < m) = false := decide_eq_false hlt
                rw [if_neg (by rintro (h | h); exact hb h; exact hlt h)] at HS1
                go_wp2_with (go_at_call 10; (with_reducible refine (CFk.out _ (below_al (box_b HB.out) _)).mono ?_); rintro e w2 ⟨rfl, hb2⟩; have HB2 := Lib.hid (box_next (box_next HB.out (below_al (Below.refl _ _) _)) hb2); clear hb2)
                go_roundw
                case rel => exact ⟨k + 1, b, m, by go_num, rfl, rfl, by omega, HS1.out, HB2.out⟩
                case measure => simp [intOf]; omega
          · have df : (f2 != 0) = true := bne_iff_ne.2 hf
            rw [if_pos hf] at HS1
            have HVf : Hid (V = (0, f2)) := by
              have := HE.out (k + 1) (by rw [HS1.out]; exact hf) (by omega)
              rw [HS1.out] at this
              exact this
            go_wp2_with (go_at_call 10; (with_reducible refine (CFk.out _ (below_al (box_b HB.out) _)).mono ?_); rintro e w2 ⟨rfl, hb2⟩; have HB2 := Lib.hid (box_next (box_next HB.out (below_al (Below.refl _ _) _)) hb2); clear hb2)
            go_ret2
            exact ⟨by rw [HVf.out]; rfl, box_b HB2.out⟩
      · have dk : decide ((k : Int) < (bays.length : Int)) = false := decide_eq_false (by omega)
        have hk1 : ¬ (k : Int) < (bays.length : Int) := by omega
        have hkL : k = bays.length := by omega
        subst hkL
        have hV := HV.out
        rw [HK.out] at hV
        dsimp only at hV
        rw [if_neg (by simp)] at hV
        by_cases hb : b = 0
        · rw [if_pos hb] at hV
          have HVf := Lib.hid hV
          subst hb
          clear hV
          go_wp2
          go_ret2
          exact ⟨by rw [HVf.out]; rfl, box_b HB.out⟩
        · rw [if_neg hb] at hV
          have HVf := Lib.hid hV
          have db : (b == 0) = false := beq_eq_false_iff_ne.2 hb
          clear hV
          go_wp2
          go_ret2
          exact ⟨by rw [HVf.out]; rfl, box_b HB.out⟩
  · have HV : Hid (cheapV c l level = (0, chkC c)) := by
      show _ = _
      unfold cheapV
      rw [if_pos hm]
    rw [HV.out]
    have dm : (chkC c != 0) = true := bne_iff_ne.2 hm
    generalize chkC c = M at *
    clear hc ha HV
    unfold CatIn.val at *
    go_enter Try.func12, Try.ntmps12
    go_wp2_with (go_at_call 36; (with_reducible refine (CC.out _ (box_b HB0.out)).mono ?_); rintro e w1 ⟨rfl, hb1⟩)
    go_ret2
    exact ⟨rfl, below2 (box_b HB0.out) hb1⟩
end Quo
end Go.Proofs.Ytiabnjmblcogmaa
end
section
namespace Go.Proofs.Ytiabnjmblcogmaa
open Go.RowKit
namespace Quo
open Rec (Stk Stks stkVals)
open Pen (below2 below_al below_dN)
open In (Ints)
theorem infoS : (Try.prog.info? 46).map (fun i => (i.zero, i.size, i.bytes)) = some (some (.agg #[.int .i64 0, .int .i64 0]), 2, 16) := by kernel_rfl
theorem stk_news {w : World} {ad : Addr} {s : List Stk} (h : Stks w (some ad) s) : ∀ j u, (stkVals s)[j]? = some u → w.cell? (ad.add j) = some u := fun j u hj => by
  have hlen : j < s.length * 2 := by
    have := (List.getElem?_eq_some_iff.1 hj).1
    rwa [Rec.stkVals_length] at this
  obtain ⟨b, off, e, -, c0, c1⟩ := h (j / 2) (by omega)
  cases e
  have hg := flat_get3 (fun x : Stk => [Value.int .i64 x.1, Value.int .i64 x.2]) 2 (fun _ => rfl) s (0, 0) (j / 2) (j % 2) (by omega) (by omega)
  have hj2 : (stkVals s)[j / 2 * 2 + j % 2]? = some u := by rw [show j / 2 * 2 + j % 2 = j by omega]; exact hj
  have e1 : (stkVals s)[j / 2 * 2 + j % 2]? = ([Value.int .i64 (s.getD (j / 2) (0, 0)).1, Value.int .i64 (s.getD (j / 2) (0, 0)).2])[j % 2]? := hg
  rw [e1] at hj2
  have hadd : (⟨b, off, none⟩ : Addr).add j = ⟨b, off + j, none⟩ := by unfold Addr.add; split <;> simp_all
  rw [hadd]
  rcases (show j % 2 = 0 ∨ j % 2 = 1 by omega) with h0 | h0
  · rw [h0] at hj2
    cases hj2
    rw [show off + j = off + j / 2 * 2 by omega]
    exact c0
  · rw [h0] at hj2
    cases hj2
    rw [show off + j = off + j / 2 * 2 + 1 by omega]
    exact c1
set_option maxRecDepth 100000 in
set_option maxHeartbeats 2000000 in
theorem cloneSpan_any (a : Option Addr) (cap : Nat) (s : List Stk) (hs : s.length ≤ 4096) (w : World) (ha : Stks w a s) :
    Calls Try.prog 38 #[.slice a s.length cap] w fun e w' => ∃ v', e = .returned v' ∧ Hid (w'.ownsRow w.heap.size 46 2 v' s.length (stkVals s)) ∧ Hid (Below w.heap.size w w') := by
  obtain ⟨i0, hi0, hz0, hz1, hz2⟩ := info_of infoS
  have HL := Lib.hid (Rec.stkVals_length s)
  have q22 : ∀ (w : World) (a : Option Addr) (n c n' c' : Nat), (binOp .eql 32 (.slice a n c) (.slice none n' c')).run Try.prog w = .ok (.bool a.isNone) w := fun w a n c n' c' => Lib.run_eql_slice_nil w _ _ a n c n' c' Try.underlying32
  cases a with
  | none =>
    have h0 : s = [] := by
      cases s with
      | nil => rfl
      | cons x s => obtain ⟨b, off, e, -⟩ := ha 0 (by simp); cases e
    subst h0
    go_enter Try.func38, Try.ntmps38
    go_wp2
    go_ret
    exact ⟨_, rfl, World.ownsRow_nil _ _ _ _, Below.refl _ _⟩
  | some ad =>
    have HN := Lib.hid (stk_news ha)
    have H1 : Hid (∀ u ∈ stkVals s, u.oneCell' = true) := fun u hu => by
      unfold stkVals at hu
      rw [List.mem_flatMap] at hu
      obtain ⟨x, -, hx⟩ := hu
      simp at hx
      rcases hx with rfl | rfl <;> rfl
    clear ha
    obtain ⟨news, hne⟩ : ∃ news, stkVals s = news := ⟨_, rfl⟩
    rw [hne] at HL HN H1 ⊢
    clear hne
    generalize s.length = n at *
    go_enter Try.func38, Try.ntmps38
    go_wp2_with (at_builtin; refine wpList_append_own _ rfl (.tmp 5) (.tmp 6) 32 rfl w.heap.size 46 i0 _ 2 16 Try.underlying32 hi0 hz0 hz1 hz2 rfl (by decide) _ 0 _ rfl (World.ownsRow_made w #[] 0 (Nat.le_refl _) (Nat.zero_le _) (by simp)) ad n cap news rfl ?qc1 ?qc2 ?qc3 ?qc4 ?qc5 ?qc6 ?_)
    case qc1 => exact HL.out
    case qc2 => intro j u hj; exact Lib.cell?_alloc_some _ (HN.out j u hj)
    case qc3 => exact H1.out
    case qc4 => unfold maxLen; omega
    case qc5 => omega
    case qc6 => simp
    intro v' w1 hown hgrow hnil
    obtain ⟨va, vc, rfl⟩ := own_slice hown
    go_wp2
    go_ret
    refine ⟨_, rfl, Lib.hid (by simpa using hown), ?_⟩
    exact ((Below.refl _ w).alloc (Nat.le_refl _) _).grown hgrow (by simp) (by intro k hk; simp [Value.ownBlock] at hk; omega)
-- closures
set_option maxHeartbeats 1000000 in
theorem fits1_any (gx gl : Nat) (x1 : Int) (s : List Stk) (hs : s.length ≤ 4096) (sa : Option Addr) (scap : Nat) (k : Nat) (hk : k < s.length) (w : World) (h0 : w.cell? ⟨gx, 0, none⟩ = some (.int .i64 x1)) (h1 : w.cell? ⟨gl, 0, none⟩ = some (.slice sa s.length scap)) (hS : Stks w sa s) :
    Calls Try.prog 39 #[.int .i64 (k : Int), .pointer (some ⟨gx, 0, none⟩), .pointer (some ⟨gl, 0, none⟩)] w fun e w' => e = .returned (.bool (decide (x1 < (s.getD k (0, 0)).2))) ∧ Below w.heap.size w w' := by
  obtain ⟨b, off, rfl, hbl, c0, c1⟩ := hS k hk
  have hk0 : (0 : Int) ≤ (k : Int) := by omega
  have hk1 : (k : Int) < (s.length : Int) := by omega
  generalize s.getD k (0, 0) = q at *
  obtain ⟨q1, q2⟩ := q
  dsimp only at *
  clear hS
  go_enter Try.func39, Try.ntmps39
  go_wp2
  go_quiet (fail)
  go_wp2
  go_ret
  exact ⟨rfl, below_dN (Below.refl _ _) _⟩
set_option maxHeartbeats 1000000 in
theorem indexF1_any (a : Option Addr) (cap : Nat) (l : List Int) (hl : l.length ≤ 4096) (w : World) (ha : Ints .i64 w a l) (p1 p2 : Value) (P : Int → Bool) (hC : ∀ W k, k < l.length → Below w.heap.size w W → Calls Try.prog 39 #[.int .i64 (l.getD k 0), p1, p2] W fun e w' => e = .returned (.bool (P (l.getD k 0))) ∧ Below W.heap.size W w') :
    Calls Try.prog 49 #[.slice a l.length cap, .func (.func 39) #[] #[p1, p2]] w fun e w' => (∃ i : Int, e = .returned (.int .i64 i) ∧ decide (0 ≤ i) = l.any P) ∧ Below w.heap.size w w' := by
  have HA := Lib.hid ha
  have HC := Lib.hid hC
  clear ha hC
  obtain ⟨R, hR⟩ : ∃ R, Hid (l.any P = R) := ⟨_, rfl⟩
  rw [hR.out]
  go_enter Try.func49, Try.ntmps49
  go_wp2
  go_loopw [8] (fun i wr => ∃ k : Nat, k ≤ l.length ∧ i = .int .i64 k ∧ Hid (∀ j, j < k → P (l.getD j 0) = false) ∧ Hid (Below w.heap.size w wr)) (fun i _ => l.length - (intOf i).toNat)
  case atStart => exact ⟨0, by omega, rfl, fun j hj => absurd hj (Nat.not_lt_zero j), Below.refl _ _⟩
  case round =>
    obtain ⟨k, hk, rfl, HM, HB⟩ := hrel
    by_cases hlt : k < l.length
    · obtain ⟨b, off, rfl, hbl, hc⟩ := HA.out k hlt
      have hc2 := (HB.out.cell (p := ⟨b, off + k, none⟩) hbl).trans hc
      have hlt1 : (k : Int) < (l.length : Int) := by omega
      have CC := Lib.hid (fun W h => HC.out W k hlt h)
      have HY : Hid (P (l.getD k 0) = true → R = true) := fun h => by rw [← hR.out]; exact any_take P l 0 k hlt h
      have HN : Hid (P (l.getD k 0) = false → ∀ j, j < k + 1 → P (l.getD j 0) = false) := fun h j hj => by
        by_cases hjk : j = k
        · rw [hjk]; exact h
        · exact HM.out j (by omega)
      clear hc
      generalize P (l.getD k 0) = B at *
      generalize l.getD k 0 = T at *
      cases B
      · replace HN := Lib.hid (HN.out rfl)
        go_wp2_with (go_at_call 39; ((with_reducible refine (CC.out _ HB.out).mono ?_); rintro e w1 ⟨rfl, hb1⟩; have HB1 := Lib.hid (below2 HB.out hb1)))
        go_roundw
        case rel => exact ⟨k + 1, by omega, by go_num, HN.out, HB1.out⟩
        case measure => simp [intOf]; omega
      · replace HY := Lib.hid (HY.out rfl)
        go_wp2_with (go_at_call 39; ((with_reducible refine (CC.out _ HB.out).mono ?_); rintro e w1 ⟨rfl, hb1⟩; have HB1 := Lib.hid (below2 HB.out hb1)))
        go_ret
        exact ⟨⟨(k : Int), rfl, by rw [HY.out]; exact decide_eq_true (by omega)⟩, HB1.out⟩
    · have hke : Hid (R = false) := by show R = false; rw [← hR.out]; exact any_none P l 0 fun j hj => HM.out j (by omega)
      go_wp2
      go_ret
      exact ⟨⟨-1, rfl, by rw [hke.out]; rfl⟩, HB.out⟩
theorem containsF1_any (a : Option Addr) (cap : Nat) (l : List Int) (hl : l.length ≤ 4096) (w : World) (ha : Ints .i64 w a l) (p1 p2 : Value) (P : Int → Bool) (hC : ∀ W k, k < l.length → Below w.heap.size w W → Calls Try.prog 39 #[.int .i64 (l.getD k 0), p1, p2] W fun e w' => e = .returned (.bool (P (l.getD k 0))) ∧ Below W.heap.size W w') :
    Calls Try.prog 23 #[.slice a l.length cap, .func (.func 39) #[] #[p1, p2]] w fun e w' => e = .returned (.bool (l.any P)) ∧ Below w.heap.size w w' := by
  have CC := Lib.hid (indexF1_any a cap l hl w ha p1 p2 P hC)
  clear hl ha hC
  generalize l.any P = B at *
  go_enter Try.func23, Try.ntmps23
  go_wp2_with (go_at_call 49; ((with_reducible refine CC.out.mono ?_); rintro e w1 ⟨⟨i, rfl, hi⟩, hb1⟩))
  go_ret
  exact ⟨by rfl, hb1⟩
theorem fits2_any (x y : Int) (w : World) : Calls Try.prog 41 #[.agg #[.int .i64 x, .int .i64 y]] w fun e w' => e = .returned (.bool (!decide ((x, y) = (0, 0)))) ∧ Below w.heap.size w w' := by
  by_cases hx : x = 0
  · subst hx
    by_cases hy : y = 0
    · subst hy
      go_enter Try.func41, Try.ntmps41
      go_wp2
      go_ret
      exact ⟨rfl, below_al (Below.refl _ _) _⟩
    · have dy : (y == 0) = false := beq_eq_false_iff_ne.2 hy
      have hR : Hid (decide (((0 : Int), y) = (0, 0)) = false) := decide_eq_false fun e => hy (congrArg Prod.snd e)
      rw [hR.out]
      go_enter Try.func41, Try.ntmps41
      go_wp2
      go_ret
      exact ⟨rfl, below_al (Below.refl _ _) _⟩
  · have dx : (x == 0) = false := beq_eq_false_iff_ne.2 hx
    have hR : Hid (decide ((x, y) = ((0 : Int), (0 : Int))) = false) := decide_eq_false fun e => hx (congrArg Prod.fst e)
    rw [hR.out]
    go_enter Try.func41, Try.ntmps41
    go_wp2
    go_ret
    exact ⟨rfl, below_al (Below.refl _ _) _⟩
def notZero (x : Stk) : Bool := !decide (x = (0, 0))
set_option maxHeartbeats 1000000 in
theorem indexF2_any (a : Option Addr) (cap : Nat) (l : List Stk) (hl : l.length ≤ 4096) (w : World) (ha : Stks w a l) :
    Calls Try.prog 64 #[.slice a l.length cap, .func (.func 41) #[] #[]] w fun e w' => (∃ i : Int, e = .returned (.int .i64 i) ∧ decide (0 ≤ i) = l.any notZero) ∧ Below w.heap.size w w' := by
  have HA := Lib.hid ha
  clear ha
  obtain ⟨R, hR⟩ : ∃ R, Hid (l.any notZero = R) := ⟨_, rfl⟩
  rw [hR.out]
  go_enter Try.func64, Try.ntmps64
  go_wp2
  go_loopw [8] (fun i wr => ∃ k : Nat, k ≤ l.length ∧ i = .int .i64 k ∧ Hid (∀ j, j < k → notZero (l.getD j (0, 0)) = false) ∧ Hid (Below w.heap.size w wr)) (fun i _ => l.length - (intOf i).toNat)
  case atStart => exact ⟨0, by omega, rfl, fun j hj => absurd hj (Nat.not_lt_zero j), Below.refl _ _⟩
  case round =>
    obtain ⟨k, hk, rfl, HM, HB⟩ := hrel
    by_cases hlt : k < l.length
    · obtain ⟨b, off, rfl, hbl, hc0, hc1⟩ := HA.out k hlt
      have z0 := (HB.out.cell (p := ⟨b, off + k * 2, none⟩) hbl).trans hc0
      have z1 := (HB.out.cell (p := ⟨b, off + k * 2 + 1, none⟩) hbl).trans hc1
      have hlt1 : (k : Int) < (l.length : Int) := by omega
      have CC : Hid (∀ W, Calls Try.prog 41 #[.agg #[.int .i64 (l.getD k (0, 0)).1, .int .i64 (l.getD k (0, 0)).2]] W fun e w' => e = .returned (.bool (notZero (l.getD k (0, 0)))) ∧ Below W.heap.size W w') := fun W => fits2_any _ _ W
      have HY : Hid (notZero (l.getD k (0, 0)) = true → R = true) := fun h => by rw [← hR.out]; exact any_take notZero l (0, 0) k hlt h
      have HN : Hid (notZero (l.getD k (0, 0)) = false → ∀ j, j < k + 1 → notZero (l.getD j (0, 0)) = false) := fun h j hj => by
        by_cases hjk : j = k
        · rw [hjk]; exact h
        · exact HM.out j (by omega)
      clear hc0 hc1
      generalize notZero (l.getD k (0, 0)) = B at *
      generalize l.getD k (0, 0) = T at *
      obtain ⟨T1, T2⟩ := T
      dsimp only at z0 z1 CC
      cases B
      · replace HN := Lib.hid (HN.out rfl)
        go_wp2_with (go_at_call 41; ((with_reducible refine (CC.out _).mono ?_); rintro e w1 ⟨rfl, hb1⟩; have HB1 := Lib.hid (below2 HB.out hb1)))
        go_roundw
        case rel => exact ⟨k + 1, by omega, by go_num, HN.out, HB1.out⟩
        case measure => simp [intOf]; omega
      · replace HY := Lib.hid (HY.out rfl)
        go_wp2_with (go_at_call 41; ((with_reducible refine (CC.out _).mono ?_); rintro e w1 ⟨rfl, hb1⟩; have HB1 := Lib.hid (below2 HB.out hb1)))
        go_ret
        exact ⟨⟨(k : Int), rfl, by rw [HY.out]; exact decide_eq_true (by omega)⟩, HB1.out⟩
    · have hke : Hid (R = false) := by show R = false; rw [← hR.out]; exact any_none notZero l (0, 0) fun j hj => HM.out j (by omega)
      go_wp2
      go_ret
      exact ⟨⟨-1, rfl, by rw [hke.out]; rfl⟩, HB.out⟩
theorem containsF2_any (a : Option Addr) (cap : Nat) (l : List Stk) (hl : l.length ≤ 4096) (w : World) (ha : Stks w a l) :
    Calls Try.prog 40 #[.slice a l.length cap, .func (.func 41) #[] #[]] w fun e w' => e = .returned (.bool (l.any notZero)) ∧ Below w.heap.size w w' := by
  have CC := Lib.hid (indexF2_any a cap l hl w ha)
  clear hl ha
  generalize l.any notZero = B at *
  go_enter Try.func40, Try.ntmps40
  go_wp2_with (go_at_call 64; ((with_reducible refine CC.out.mono ?_); rintro e w1 ⟨⟨i, rfl, hi⟩, hb1⟩))
  go_ret
  exact ⟨by rfl, hb1⟩
end Quo
end Go.Proofs.Ytiabnjmblcogmaa
end
section
namespace Go.Proofs.Ytiabnjmblcogmaa
open Go.RowKit
namespace Quo
open Cat (CatIn BayIn chkC nob noy makerV)
open Rec (BlueIn Stk Stks stkVals)
theorem mem_jobsTo {l : List Int} {n k : Nat} : k ∈ jobsTo l n ↔ k < n ∧ l.getD k 0 ≠ 0 := by
  unfold jobsTo
  rw [List.mem_filter, List.mem_range]
  simp
theorem nodup_jobsTo (l : List Int) (n : Nat) : (jobsTo l n).Nodup := List.nodup_range.sublist List.filter_sublist
/-- The blueprint of a job among those of a shop. -/
theorem JobsOk.blue_mem {c : CatIn} {l : List Int} {level : Int} {n base : Nat} {w : World} {L : List JobIn} (h : JobsOk c l level n w base L) {i : Nat} (hi : i < L.length) : (L.getD i noj).blue < n ∧ l.getD (L.getD i noj).blue 0 ≠ 0 := by
  apply mem_jobsTo.1
  rw [← h.blues, List.getD_eq_getElem?_getD, List.getElem?_eq_getElem hi]
  exact List.mem_map.2 ⟨_, List.getElem_mem hi, rfl⟩
theorem getD_mem' {α : Type} {L : List α} {i : Nat} (hi : i < L.length) (d : α) : L.getD i d ∈ L := by
  rw [List.getD_eq_getElem?_getD, List.getElem?_eq_getElem hi]; exact List.getElem_mem hi
/-- Is a job done when one begins that begins at a time? -/
def inSpan (x1 : Int) (y : Stk) : Bool := decide (y.1 ≤ x1) && decide (x1 < y.2)
def busyJ (s : List Stk) (L : List JobIn) (x1 : Int) : Nat → Nat
  | 0 => 0
  | i + 1 => busyJ s L x1 i + if inSpan x1 (s.getD (L.getD i noj).blue (0, 0)) then 1 else 0
theorem busyJ_le (s : List Stk) (L : List JobIn) (x1 : Int) : ∀ i, busyJ s L x1 i ≤ i
  | 0 => Nat.le_refl _
  | i + 1 => by
    have := busyJ_le s L x1 i
    rw [busyJ]
    split <;> omega
theorem filt1 (P : Nat → Bool) (a : Nat) : ([a].filter P).length = if P a then 1 else 0 := by cases h : P a <;> simp [h]
theorem busyJ_eq (s : List Stk) (L : List JobIn) (x1 : Int) : ∀ i, i ≤ L.length → busyJ s L x1 i = (((L.take i).map (·.blue)).filter fun x => inSpan x1 (s.getD x (0, 0))).length
  | 0, _ => rfl
  | i + 1, h => by
    have e : L.getD i noj = L[i]'(by omega) := by rw [List.getD_eq_getElem?_getD, List.getElem?_eq_getElem (by omega)]; rfl
    rw [busyJ, busyJ_eq s L x1 i (by omega), List.take_succ_eq_append_getElem (by omega), List.map_append, List.filter_append, List.length_append, e]
    congr 1
    exact (filt1 (fun x => inSpan x1 (s.getD x (0, 0))) L[i].blue).symm
theorem busyTo_eq (l : List Int) (s : List Stk) (k : Nat) : ∀ n, busyTo l s k n = ((jobsTo l n).filter fun x => inSpan (s.getD k (0, 0)).1 (s.getD x (0, 0))).length
  | 0 => rfl
  | n + 1 => by
    rw [busyTo, busyTo_eq l s k n, jobsTo_succ, List.filter_append, List.length_append]
    congr 1
    unfold busy
    by_cases h : l.getD n 0 = 0
    · rw [if_pos h, decide_eq_true h]; rfl
    · rw [if_neg h, decide_eq_false h]
      have e : (!false && (decide ((s.getD n (0, 0)).1 ≤ (s.getD k (0, 0)).1) && decide ((s.getD k (0, 0)).1 < (s.getD n (0, 0)).2))) = inSpan (s.getD k (0, 0)).1 (s.getD n (0, 0)) := rfl
      rw [e]
      cases h2 : inSpan (s.getD k (0, 0)).1 (s.getD n (0, 0)) with
      | true => rw [if_pos rfl, List.filter_cons, if_pos h2]; rfl
      | false => rw [if_neg (by simp), List.filter_cons, if_neg (by rw [h2]; simp)]; rfl
theorem busyJ_all {c : CatIn} {l : List Int} {level : Int} {n base : Nat} {w : World} {L : List JobIn} (h : JobsOk c l level n w base L) (s : List Stk) (k : Nat) : busyJ s L (s.getD k (0, 0)).1 L.length = busyTo l s k n := by
  rw [busyJ_eq s L _ _ (Nat.le_refl _), busyTo_eq, List.take_of_length_le (Nat.le_refl _), h.blues]
/-- Does one for which a job waits end behind its begin? -/
def earlyJ (s : List Stk) (x1 : Int) (x : Int) : Bool := decide (x1 < (s.getD x.toNat (0, 0)).2)
theorem early_any {c : CatIn} {l : List Int} (hl : ∀ k, k < l.length → 0 ≤ l.getD k 0) (s : List Stk) (k : Nat) : (waitsL c l k).any (earlyJ s (s.getD k (0, 0)).1) = !((List.range c.blues.length).all fun x => !early c l s k x) := by
  cases h : (waitsL c l k).any (earlyJ s (s.getD k (0, 0)).1) with
  | true =>
    obtain ⟨x, hx, h2⟩ := List.any_eq_true.1 h
    obtain ⟨h0, h1⟩ := mem_waitsL hx
    obtain ⟨m, rfl⟩ : ∃ m : Nat, x = (m : Int) := ⟨x.toNat, by omega⟩
    have hw := (waits_mem hl).1 hx
    have he : early c l s k m = true := by
      unfold early
      rw [hw]
      have hz : (!decide (l.getD m 0 = 0)) = true := by
        unfold waitsV at hw
        rw [Bool.and_eq_true] at hw
        exact hw.1
      rw [hz]
      unfold earlyJ at h2
      rw [Int.toNat_natCast] at h2
      rw [h2]; rfl
    rw [range_no (k := m) (by omega) (by rw [he]; rfl)]
    rfl
  | false =>
    rw [range_all fun x hx => ?_]
    · rfl
    · cases he : early c l s k x with
      | false => rfl
      | true =>
        exfalso
        unfold early at he
        rw [Bool.and_eq_true, Bool.and_eq_true] at he
        have hm := (waits_mem hl).2 he.2.1
        rw [List.any_eq_false] at h
        apply h _ hm
        unfold earlyJ
        rw [Int.toNat_natCast]
        exact he.2.2
/-- The spans, those of the first jobs made zero. -/
def zeroTo (s : List Stk) (L : List JobIn) : Nat → List Stk
  | 0 => s
  | i + 1 => (zeroTo s L i).set (L.getD i noj).blue (0, 0)
theorem zeroTo_len (s : List Stk) (L : List JobIn) : ∀ i, (zeroTo s L i).length = s.length
  | 0 => rfl
  | i + 1 => by rw [zeroTo, List.length_set, zeroTo_len s L i]
theorem zeroTo_get (s : List Stk) (L : List JobIn) (hb : ∀ i, i < L.length → (L.getD i noj).blue < s.length) (k : Nat) : ∀ i, i ≤ L.length → (zeroTo s L i).getD k (0, 0) = if k ∈ (L.take i).map (·.blue) then (0, 0) else s.getD k (0, 0)
  | 0, _ => by simp [zeroTo]
  | i + 1, h => by
    rw [zeroTo, getD_set _ _ _ _ _ (by rw [zeroTo_len]; exact hb i (by omega)), zeroTo_get s L hb k i (by omega), List.take_succ_eq_append_getElem (by omega), List.map_append]
    have e : L.getD i noj = L[i] := by rw [List.getD_eq_getElem?_getD, List.getElem?_eq_getElem (by omega)]; rfl
    rw [e]
    by_cases hk : k = L[i].blue
    · rw [if_pos hk, if_pos]
      rw [List.mem_append]
      exact .inr (by simp [hk])
    · rw [if_neg hk]
      by_cases hm : k ∈ (L.take i).map (·.blue)
      · rw [if_pos hm, if_pos (List.mem_append.2 (.inl hm))]
      · rw [if_neg hm, if_neg]
        intro h2
        rcases List.mem_append.1 h2 with h3 | h3
        · exact hm h3
        · simp at h3; exact hk h3
/-- Where all jobs are as they must be, the others decide. -/
theorem fits_end {c : CatIn} {l : List Int} {level bay : Int} {n base : Nat} {w : World} {L : List JobIn} (h : JobsOk c l level n w base L) {s : List Stk} (hs : s.length = n) (hall : ∀ i, i < L.length → spanOk c l level s (L.getD i noj).blue = true ∧ jobOk c bay l s (L.getD i noj).blue = true) :
    ((List.range s.length).all (spanOk c l level s) && (List.range s.length).all (jobOk c bay l s)) = !((zeroTo s L L.length).any notZero) := by
  have hmem : ∀ k, k ∈ L.map (·.blue) → spanOk c l level s k = true ∧ jobOk c bay l s k = true := fun k hk => by
    obtain ⟨j, hj, rfl⟩ := List.mem_map.1 hk
    obtain ⟨i, hi, rfl⟩ := List.getElem_of_mem hj
    have := hall i hi
    rw [List.getD_eq_getElem?_getD, List.getElem?_eq_getElem hi] at this
    exact this
  have hblue : ∀ k, k ∈ L.map (·.blue) ↔ k < n ∧ l.getD k 0 ≠ 0 := fun k => by rw [h.blues]; exact mem_jobsTo
  have hget : ∀ k, (zeroTo s L L.length).getD k (0, 0) = if k ∈ L.map (·.blue) then (0, 0) else s.getD k (0, 0) := fun k => by
    have := zeroTo_get s L (fun i hi => by rw [hs]; exact (h.blue_mem hi).1) k L.length (Nat.le_refl _)
    rwa [List.take_of_length_le (Nat.le_refl _)] at this
  cases hz : (zeroTo s L L.length).any notZero with
  | true =>
    obtain ⟨x, hx, h2⟩ := List.any_eq_true.1 hz
    obtain ⟨k, hk, rfl⟩ := List.getElem_of_mem hx
    have hk2 : k < s.length := by rw [zeroTo_len] at hk; exact hk
    have e := hget k
    rw [List.getD_eq_getElem?_getD, List.getElem?_eq_getElem hk] at e
    dsimp only [Option.getD_some] at e
    by_cases hm : k ∈ L.map (·.blue)
    · rw [if_pos hm] at e
      rw [e] at h2
      cases h2
    · rw [if_neg hm] at e
      have hl0 : l.getD k 0 = 0 := by
        by_cases h3 : l.getD k 0 = 0
        · exact h3
        · exact absurd ((hblue k).2 ⟨by omega, h3⟩) hm
      have : spanOk c l level s k = false := by
        unfold spanOk
        rw [if_pos hl0, ← e]
        unfold notZero at h2
        simpa using h2
      rw [range_no hk2 this]
      rfl
  | false =>
    rw [range_all fun k hk => ?_, range_all fun k hk => ?_]
    · rfl
    · by_cases hm : k ∈ L.map (·.blue)
      · exact (hmem k hm).2
      · have hl0 : l.getD k 0 = 0 := by
          by_cases h3 : l.getD k 0 = 0
          · exact h3
          · exact absurd ((hblue k).2 ⟨by omega, h3⟩) hm
        unfold jobOk
        rw [decide_eq_true hl0, Bool.true_or]
    · by_cases hm : k ∈ L.map (·.blue)
      · exact (hmem k hm).1
      · have hl0 : l.getD k 0 = 0 := by
          by_cases h3 : l.getD k 0 = 0
          · exact h3
          · exact absurd ((hblue k).2 ⟨by omega, h3⟩) hm
        have e := hget k
        rw [if_neg hm] at e
        unfold spanOk
        rw [if_pos hl0, ← e]
        rw [List.any_eq_false] at hz
        have hkz : k < (zeroTo s L L.length).length := by rw [zeroTo_len]; exact hk
        have := hz _ (getD_mem' hkz (0, 0))
        unfold notZero at this
        simpa using this
/-- Spans as cells, one of them made zero. -/
theorem stkVals_set (s : List Stk) (k : Nat) (x : Stk) (hk : k < s.length) : stkVals (s.set k x) = ((stkVals s).set (k * 2) (.int .i64 x.1)).set (k * 2 + 1) (.int .i64 x.2) := by
  induction s generalizing k with
  | nil => simp at hk
  | cons a s ih =>
    cases k with
    | zero => rfl
    | succ k =>
      have h2 := ih k (by simpa using hk)
      have e1 : stkVals ((a :: s).set (k + 1) x) = Value.int .i64 a.1 :: Value.int .i64 a.2 :: stkVals (s.set k x) := rfl
      have e2 : stkVals (a :: s) = Value.int .i64 a.1 :: Value.int .i64 a.2 :: stkVals s := rfl
      rw [e1, e2, h2, show (k + 1) * 2 = k * 2 + 1 + 1 by omega]
      rfl
end Quo
end Go.Proofs.Ytiabnjmblcogmaa
end
