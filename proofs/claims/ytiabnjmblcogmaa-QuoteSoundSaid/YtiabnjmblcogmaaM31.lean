/- Texts put together: QuoS. -/
import Derived.Test.YtiabnjmblcogmaaM16
set_option linter.all false
section
namespace Go.Proofs.Ytiabnjmblcogmaa
open Go.RowKit
namespace Quo
open Cat (CatIn BayIn chkC nob noy makerV Cam Box box_new box_b box_next box_flat)
open Rec (BlueIn Stk Stks)
open Pen (below2 below_al below_dN)
theorem takeH {P : Program} {ops : Array Oper} {Q : Exit → Act → World → Prop} {md : Region.Mode} {S : World → Prop} {i : Nat} {oi : Oper} {v : Value} {fuel : Nat} {listed : Array Bool} {a : Act} {w : World} (t : Tmp) (hi : ops[i]? = some oi) (ht : oi.dst = some t)
    (hs : Region.noSelect ops = true) (hf : Region.free md ops listed i = true) (hr : (Region.ready md ops listed).contains i = true)
    (hQ : ∀ c a w, Q (.panic c) (a.put oi.dst v) w → Q (.panic c) a w) (hy : YieldsIf P ops S oi v a) (hS : S w)
    (h : wpAnyH P md ops Q S fuel (listed.setIfInBounds i true) (a.put (some t) v) w) : wpAnyH P md ops Q S (fuel + 1) listed a w :=
  wpAnyH_take hi hs hf hr hQ hy hS (by rw [ht]; exact h)
set_option maxRecDepth 100000 in
set_option maxHeartbeats 16000000 in
theorem refFits_any (c : CatIn) (w : World) (hc : Cam w c) (bay : Int) (a : Option Addr) (cap : Nat) (l : List Int) (hl : l.length ≤ 20) (ha : In.Ints .i64 w a l) (level : Int) (sa : Option Addr) (scap : Nat) (s : List Stk) (hs : s.length ≤ 20) (hst : Stks w sa s) (hsn : ∀ i, i < s.length → (Lit.int .i64 (s.getD i (0, 0)).2).wf = true) :
    Calls Try.prog 16 #[.agg c.val, .int .i64 bay, .slice a l.length cap, .int .i64 level, .slice sa s.length scap] w fun e w' => e = .returned (.bool (fitsV c bay l level s)) ∧ Below w.heap.size w w' := by
  have HB0 := Lib.hid (box_new w c 27)
  have CM : Hid (∀ W, Below w.heap.size w W → Calls Try.prog 31 #[.agg c.val, .int .i64 bay, .slice a l.length cap, .int .i64 level] W fun e w' => e = .returned (.int .i64 (mayV c bay l level)) ∧ Below W.heap.size W w') := fun W h => may_any c W (hc.below h) bay a cap l hl (ha.below h) level
  have HV : Hid (fitsV c bay l level s = (decide (mayV c bay l level = 0) && (decide (s.length = c.blues.length) && ((List.range s.length).all (spanOk c l level s) && (List.range s.length).all (jobOk c bay l s))))) := rfl
  obtain ⟨V, hVe⟩ : ∃ V, fitsV c bay l level s = V := ⟨_, rfl⟩
  rw [hVe] at HV ⊢
  clear hVe
  by_cases hm : mayV c bay l level = 0
  · obtain ⟨-, hb1, hb2, hr, -, -⟩ := mayV_ok hm
    have hlen := runsOk_len hr
    rw [hm] at CM
    by_cases hsl : s.length = c.blues.length
    · have HV2 : Hid (V = ((List.range s.length).all (spanOk c l level s) && (List.range s.length).all (jobOk c bay l s))) := by show V = _; rw [HV.out, decide_eq_true hm, decide_eq_true hsl]; rfl
      clear HV hm hr
      obtain ⟨Bn, rfl⟩ : ∃ Bn : Nat, bay = (Bn : Int) + 1 := ⟨bay.toNat - 1, by omega⟩
      have hBn : Bn < c.bays.length := by omega
      have hny := hc.small.2.1
      have hnb := hc.small.1
      obtain ⟨types, blues, baddr, bcap, places, bays, yaddr, ycap, chars, broker, least, sales⟩ := c
      obtain ⟨yb, yo, hya, hyl, -, y1, -, -⟩ := hc.lies.2.1 Bn hBn
      dsimp only at hya
      subst hya
      have HY1 : Hid (w.cell? ⟨yb, yo + Bn * 4 + 1, none⟩ = some (.int .i64 (bays.getD Bn noy).make)) := y1
      obtain ⟨c, hcd⟩ : ∃ c, (CatIn.mk types blues baddr bcap places bays (some ⟨yb, yo, none⟩) ycap chars broker least sales) = c := ⟨_, rfl⟩
      have hmk : makeOf c ((Bn : Int) + 1) = (bays.getD Bn noy).make := by unfold makeOf; rw [← hcd, show ((Bn : Int) + 1).toNat - 1 = Bn by omega]
      rw [hcd] at hc HB0 CM HV2 hlen hsl ⊢
      have CT : Hid (∀ W (k : Nat), k < l.length → Below w.heap.size w W → Calls Try.prog 33 #[.agg c.val, .int .i64 (k : Int), .slice a l.length cap, .int .i64 level] W fun e w' => e = .returned (.int .i64 (timeJ c k l level)) ∧ Below W.heap.size W w') := fun W k hk h => time_any c W (hc.below h) k (by omega) a cap l hl hk (ha.below h) level
      have CW : Hid (∀ W (k x : Nat), k < l.length → x < l.length → Below w.heap.size w W → Calls Try.prog 32 #[.agg c.val, .slice a l.length cap, .int .i64 (k : Int), .int .i64 (x : Int)] W fun e w' => e = .returned (.bool (waitsV c l k x)) ∧ Below W.heap.size W w') := fun W k x hk hx h => waits_any c W (hc.below h) k x (by omega) a cap l hl hx (ha.below h)
      have HTB : Hid (∀ k : Nat, 0 ≤ timeJ c k l level ∧ timeJ c k l level ≤ 109951162777600099) := fun k => time_le _ _ _
      have HSP : Hid (∀ k, spanOk c l level s k = if l.getD k 0 = 0 then decide (s.getD k (0, 0) = (0, 0)) else decide (0 ≤ (s.getD k (0, 0)).1) && (decide (timeJ c k l level ≤ (s.getD k (0, 0)).2) && decide ((s.getD k (0, 0)).2 - timeJ c k l level = (s.getD k (0, 0)).1))) := fun k => rfl
      have HJO : Hid (∀ k, jobOk c ((Bn : Int) + 1) l s k = (decide (l.getD k 0 = 0) || ((List.range s.length).all (fun x => !early c l s k x) && decide ((busyTo l s k s.length : Int) ≤ (bays.getD Bn noy).make)))) := fun k => by unfold jobOk; rw [hmk]
      have HEA : Hid (∀ k x, early c l s k x = (!decide (l.getD x 0 = 0) && (waitsV c l k x && decide ((s.getD k (0, 0)).1 < (s.getD x (0, 0)).2)))) := fun k x => rfl
      generalize spanOk c l level s = SP at *
      generalize jobOk c ((Bn : Int) + 1) l s = JO at *
      generalize early c l s = EA at *
      generalize waitsV c l = WV at *
      generalize (bays.getD Bn noy).make = mk at *
      obtain ⟨TJ, hTJ⟩ : ∃ TJ : Nat → Int, Hid ((fun k => timeJ c k l level) = TJ) := ⟨_, rfl⟩
      have hTJ2 : ∀ k, timeJ c k l level = TJ k := fun k => by rw [← hTJ.out]
      simp only [hTJ2] at CT HTB HSP
      clear hTJ hTJ2 hc hmk y1
      have HA := Lib.hid ha
      have HST := Lib.hid hst
      have HSN := Lib.hid hsn
      have hln : l.length = s.length := by rw [hlen, hsl]
      obtain ⟨n, hn⟩ : ∃ n, Hid (s.length = n) := ⟨_, rfl⟩
      have hbln : c.blues.length = n := by rw [← hsl, hn.out]
      have HLl : Hid (l.length = n) := by rw [hln]; exact hn.out
      rw [HLl.out] at CM CT CW hl ⊢
      rw [hn.out] at HV2 HJO hs ⊢
      have hdb : blues.length = n := by rw [← hbln, ← hcd]
      subst hcd
      dsimp only at HB0 CM CT CW hny hnb hBn hb2 ⊢
      unfold CatIn.val at *
      dsimp only at *
      rw [hdb] at HB0 CM CT CW ⊢
      have hb0 : (0 : Int) ≤ (Bn : Int) := by omega
      have hb3 : (Bn : Int) < (bays.length : Int) := by omega
      clear ha hst hsn hlen hsl hln hbln
      have HBF : Hid (∀ W, Hid (Box w ⟨types, blues, baddr, bcap, places, bays, some ⟨yb, yo, none⟩, ycap, chars, broker, least, sales⟩ W) → W.cell? ⟨w.heap.size, 0, none⟩ = some (.int .i64 types) ∧ W.cell? ⟨w.heap.size, 1, none⟩ = some (.slice baddr n bcap) ∧ W.cell? ⟨w.heap.size, 2, none⟩ = some (.int .i64 places) ∧ W.cell? ⟨w.heap.size, 3, none⟩ = some (.slice (some ⟨yb, yo, none⟩) bays.length ycap) ∧ W.cell? ⟨w.heap.size, 4, none⟩ = some (.int .i64 chars) ∧ W.cell? ⟨w.heap.size, 5, none⟩ = some (.int .i64 broker) ∧ W.cell? ⟨w.heap.size, 6, none⟩ = some (.int .i64 least) ∧ W.cell? ⟨w.heap.size, 7, none⟩ = some (.int .i64 sales) ∧ W.cell? ⟨yb, yo + Bn * 4 + 1, none⟩ = some (.int .i64 mk) ∧ yb < W.heap.size) := fun W h => by
        obtain ⟨c0, c1, c2, c3, c4, c5, c6, c7, -⟩ := box_flat h
        rw [← hdb]
        exact ⟨c0, c1, c2, c3, c4, c5, c6, c7, ((box_b h.out).cell (p := ⟨yb, yo + Bn * 4 + 1, none⟩) hyl).trans HY1.out, Nat.lt_of_lt_of_le hyl (box_b h.out).size⟩
      go_enter Try.func16, Try.ntmps16
      go_wp2_with (go_at_call 31; (with_reducible refine (CM.out _ (box_b HB0.out)).mono ?_); rintro e w1 ⟨rfl, hbb1⟩; have HB1 := Lib.hid (box_next HB0.out hbb1); clear hbb1; obtain ⟨c0, c1, c2, c3, c4, c5, c6, c7, r3, hyr⟩ := HBF.out _ HB1)
      go_loopw [11] (fun v wr => ∃ k : Nat, v = .int .i64 (k : Int) ∧ k ≤ n ∧ Hid (∀ j, j < k → SP j = true) ∧ Hid (Box w ⟨types, blues, baddr, bcap, places, bays, some ⟨yb, yo, none⟩, ycap, chars, broker, least, sales⟩ wr)) (fun v _ => n - (intOf v).toNat)
      case atStart => exact ⟨0, rfl, Nat.zero_le _, fun j hj => absurd hj (Nat.not_lt_zero j), HB1.out⟩
      case round =>
        clear c0 c1 c2 c3 c4 c5 c6 c7 r3 hyr
        obtain ⟨k, rfl, hk, HF, HB⟩ := hrel
        obtain ⟨c0, c1, c2, c3, c4, c5, c6, c7, r3, hyr⟩ := HBF.out _ HB
        by_cases hkl : k < n
        · have dk : decide ((k : Int) < (n : Int)) = true := decide_eq_true (by omega)
          have hk0 : (0 : Int) ≤ (k : Int) := by omega
          have hk1 : (k : Int) < (n : Int) := by omega
          obtain ⟨rb, ro, rfl, hrl, hrc⟩ := HA.out k (by rw [HLl.out]; exact hkl)
          obtain ⟨sb, so, rfl, hsbl, hs0, hs1⟩ := HST.out k (by rw [hn.out]; exact hkl)
          have x0 := ((box_b HB.out).cell (p := ⟨rb, ro + k, none⟩) hrl).trans hrc
          have z0 := ((box_b HB.out).cell (p := ⟨sb, so + k * 2, none⟩) hsbl).trans hs0
          have z1 := ((box_b HB.out).cell (p := ⟨sb, so + k * 2 + 1, none⟩) hsbl).trans hs1
          have hrs : rb < wr.heap.size := Nat.lt_of_lt_of_le hrl (box_b HB.out).size
          have hss : sb < wr.heap.size := Nat.lt_of_lt_of_le hsbl (box_b HB.out).size
          have hw2 := HSN.out k (by rw [hn.out]; exact hkl)
          have HSk := Lib.hid (HSP.out k)
          have CTk := Lib.hid (fun W h => CT.out W k hkl h)
          obtain ⟨ht0, ht1⟩ := HTB.out k
          have HNo : Hid (SP k = false → V = false) := fun h => by rw [HV2.out, range_no hkl h]; rfl
          have HYe : Hid (SP k = true → ∀ j, j < k + 1 → SP j = true) := fun h j hj => by
            by_cases hjk : j = k
            · rw [hjk]; exact h
            · exact HF.out j (by omega)
          generalize l.getD k 0 = q at *
          generalize s.getD k (0, 0) = sp at *
          obtain ⟨s1, s2⟩ := sp
          dsimp only at HSk z0 z1 hw2
          generalize TJ k = T at *
          clear hrc hs0 hs1
          have hw3 : -9223372036854775808 ≤ s2 ∧ s2 ≤ 9223372036854775807 := by
            simp [Lit.wf, IntKind.min, IntKind.max, IntKind.signed, IntKind.bits] at hw2
            exact hw2
          by_cases hq : q = 0
          · subst hq
            have hS := HSk.out
            rw [if_pos rfl] at hS
            by_cases g1 : s1 = 0
            · subst g1
              by_cases g2 : s2 = 0
              · subst g2
                have HY := Lib.hid (HYe.out (by rw [hS]; exact decide_eq_true rfl))
                clear hS hw2
                go_wp2
                go_roundw
                case rel => exact ⟨k + 1, by go_num, by omega, HY.out, HB.out⟩
                case measure => simp [intOf]; omega
              · have d2 : (s2 == 0) = false := beq_eq_false_iff_ne.2 g2
                have HN := Lib.hid (HNo.out (by rw [hS]; exact decide_eq_false fun e => g2 (congrArg Prod.snd e)))
                clear hS hw2
                go_wp2
                go_ret
                exact ⟨by rw [HN.out]; rfl, box_b HB.out⟩
            · have d1 : (s1 == 0) = false := beq_eq_false_iff_ne.2 g1
              have HN := Lib.hid (HNo.out (by rw [hS]; exact decide_eq_false fun e => g1 (congrArg Prod.fst e)))
              clear hS hw2
              go_wp2
              go_ret
              exact ⟨by rw [HN.out]; rfl, box_b HB.out⟩
          · have dq : (q == 0) = false := beq_eq_false_iff_ne.2 hq
            have hS := HSk.out
            rw [if_neg hq] at hS
            have HS := Lib.hid hS
            clear hS hw2
            by_cases g1 : s1 < 0
            · have d1 : decide (s1 < 0) = true := decide_eq_true g1
              have HN := Lib.hid (HNo.out (by rw [HS.out]; rw [decide_eq_false (show ¬ 0 ≤ s1 by omega), Bool.false_and]))
              go_upto_region 10 with (go_at_call 33; (with_reducible refine (CTk.out _ (box_b HB.out)).mono ?_); rintro e w2 ⟨rfl, hb2⟩; have HB2 := Lib.hid (box_next HB.out hb2); have z0 := (hb2.cell (p := ⟨sb, so + k * 2, none⟩) hss).trans z0; have z1 := (hb2.cell (p := ⟨sb, so + k * 2 + 1, none⟩) hss).trans z1; have hss := Nat.lt_of_lt_of_le hss hb2.size; clear hb2)
              go_quiet (fail)
              have HB3 : Hid (Box w ⟨types, blues, baddr, bcap, places, bays, some ⟨yb, yo, none⟩, ycap, chars, broker, least, sales⟩ (w2.drewN nq)) := box_next HB2.out (below_dN (Below.refl w2.heap.size w2) nq)
              go_wp2
              go_ret
              exact ⟨by rw [HN.out]; rfl, box_b HB3.out⟩
            · have d1 : decide (s1 < 0) = false := decide_eq_false g1
              by_cases g2 : s2 < T
              · have d2 : decide (s2 < T) = true := decide_eq_true g2
                have HN := Lib.hid (HNo.out (by rw [HS.out]; rw [decide_eq_false (show ¬ T ≤ s2 by omega), Bool.false_and, Bool.and_false]))
                go_upto_region 10 with (go_at_call 33; (with_reducible refine (CTk.out _ (box_b HB.out)).mono ?_); rintro e w2 ⟨rfl, hb2⟩; have HB2 := Lib.hid (box_next HB.out hb2); have z0 := (hb2.cell (p := ⟨sb, so + k * 2, none⟩) hss).trans z0; have z1 := (hb2.cell (p := ⟨sb, so + k * 2 + 1, none⟩) hss).trans z1; have hss := Nat.lt_of_lt_of_le hss hb2.size; clear hb2)
                go_quiet (fail)
                have HB3 : Hid (Box w ⟨types, blues, baddr, bcap, places, bays, some ⟨yb, yo, none⟩, ycap, chars, broker, least, sales⟩ (w2.drewN nq)) := box_next HB2.out (below_dN (Below.refl w2.heap.size w2) nq)
                go_wp2
                go_ret
                exact ⟨by rw [HN.out]; rfl, box_b HB3.out⟩
              · have d2 : decide (s2 < T) = false := decide_eq_false g2
                have ew : IntKind.i64.wrap (s2 - T) = s2 - T := by rw [IntKind.wrap_i64]; omega
                by_cases g3 : s2 - T = s1
                · have d3 : (s2 - T != s1) = false := bne_eq_false_iff_eq.2 g3
                  have HY := Lib.hid (HYe.out (by rw [HS.out, decide_eq_true (show 0 ≤ s1 by omega), decide_eq_true (show T ≤ s2 by omega), decide_eq_true g3]; rfl))
                  go_upto_region 10 with (go_at_call 33; (with_reducible refine (CTk.out _ (box_b HB.out)).mono ?_); rintro e w2 ⟨rfl, hb2⟩; have HB2 := Lib.hid (box_next HB.out hb2); have z0 := (hb2.cell (p := ⟨sb, so + k * 2, none⟩) hss).trans z0; have z1 := (hb2.cell (p := ⟨sb, so + k * 2 + 1, none⟩) hss).trans z1; have hss := Nat.lt_of_lt_of_le hss hb2.size; clear hb2)
                  go_quiet (fail)
                  have HB3 : Hid (Box w ⟨types, blues, baddr, bcap, places, bays, some ⟨yb, yo, none⟩, ycap, chars, broker, least, sales⟩ (w2.drewN nq)) := box_next HB2.out (below_dN (Below.refl w2.heap.size w2) nq)
                  go_wp2
                  go_roundw
                  case rel => exact ⟨k + 1, by go_num, by omega, HY.out, HB3.out⟩
                  case measure => simp [intOf]; omega
                · have d3 : (s2 - T != s1) = true := bne_iff_ne.2 g3
                  have HN := Lib.hid (HNo.out (by rw [HS.out]; rw [decide_eq_false g3, Bool.and_false, Bool.and_false]))
                  go_upto_region 10 with (go_at_call 33; (with_reducible refine (CTk.out _ (box_b HB.out)).mono ?_); rintro e w2 ⟨rfl, hb2⟩; have HB2 := Lib.hid (box_next HB.out hb2); have z0 := (hb2.cell (p := ⟨sb, so + k * 2, none⟩) hss).trans z0; have z1 := (hb2.cell (p := ⟨sb, so + k * 2 + 1, none⟩) hss).trans z1; have hss := Nat.lt_of_lt_of_le hss hb2.size; clear hb2)
                  go_quiet (fail)
                  have HB3 : Hid (Box w ⟨types, blues, baddr, bcap, places, bays, some ⟨yb, yo, none⟩, ycap, chars, broker, least, sales⟩ (w2.drewN nq)) := box_next HB2.out (below_dN (Below.refl w2.heap.size w2) nq)
                  go_wp2
                  go_ret
                  exact ⟨by rw [HN.out]; rfl, box_b HB3.out⟩
        · have dk : decide ((k : Int) < (n : Int)) = false := decide_eq_false (by omega)
          have hk1 : ¬ (k : Int) < (n : Int) := by omega
          have hkn : k = n := by omega
          have HV3 : Hid (V = (List.range n).all JO) := by show V = _; rw [HV2.out, range_all (fun j hj => HF.out j (by omega))]; rfl
          go_wp2
          go_loopw [13] (fun v wr => ∃ k : Nat, v = .int .i64 (k : Int) ∧ k ≤ n ∧ Hid (∀ j, j < k → JO j = true) ∧ Hid (Box w ⟨types, blues, baddr, bcap, places, bays, some ⟨yb, yo, none⟩, ycap, chars, broker, least, sales⟩ wr)) (fun v _ => n - (intOf v).toNat)
          case atStart => exact ⟨0, rfl, Nat.zero_le _, fun j hj => absurd hj (Nat.not_lt_zero j), HB.out⟩
          case round =>
            clear c0 c1 c2 c3 c4 c5 c6 c7 r3 hyr HF hkl dk hk1 hkn HB hk
            obtain ⟨k, rfl, hk, HF, HB⟩ := hrel
            obtain ⟨c0, c1, c2, c3, c4, c5, c6, c7, r3, hyr⟩ := HBF.out _ HB
            by_cases hkl : k < n
            · have dk : decide ((k : Int) < (n : Int)) = true := decide_eq_true (by omega)
              have hk0 : (0 : Int) ≤ (k : Int) := by omega
              have hk1 : (k : Int) < (n : Int) := by omega
              obtain ⟨rb, ro, rfl, hrl, hrc⟩ := HA.out k (by rw [HLl.out]; exact hkl)
              have x0 := ((box_b HB.out).cell (p := ⟨rb, ro + k, none⟩) hrl).trans hrc
              have HYe : Hid (JO k = true → ∀ j, j < k + 1 → JO j = true) := fun h j hj => by
                by_cases hjk : j = k
                · rw [hjk]; exact h
                · exact HF.out j (by omega)
              have HNo : Hid (JO k = false → V = false) := fun h => by rw [HV3.out, range_no hkl h]
              by_cases hq : l.getD k 0 = 0
              · rw [hq] at x0
                have HY := Lib.hid (HYe.out (by rw [HJO.out k, decide_eq_true hq]; rfl))
                clear hrc
                go_wp2
                go_roundw
                case rel => exact ⟨k + 1, by go_num, by omega, HY.out, HB.out⟩
                case measure => simp [intOf]; omega
              · obtain ⟨q, hqe⟩ : ∃ q, l.getD k 0 = q := ⟨_, rfl⟩
                rw [hqe] at x0
                have dq : (q == 0) = false := beq_eq_false_iff_ne.2 (by rw [← hqe]; exact hq)
                clear hrc hqe
                go_wp2
                obtain ⟨sb, so, rfl, hsbl, hs0, -⟩ := HST.out k (by rw [hn.out]; exact hkl)
                have HEk := Lib.hid (fun x => HEA.out k x)
                have CWk := Lib.hid (fun W (x : Nat) hx h => CW.out W k x hkl hx h)
                have HBT0 : Hid (busyTo l s k 0 = 0) := rfl
                have HBTs : Hid (∀ x, busyTo l s k (x + 1) = busyTo l s k x + if busy l s k x then 1 else 0) := fun x => rfl
                have HBTl : Hid (∀ x, busyTo l s k x ≤ x) := fun x => busyTo_le l s k x
                have HJk := HJO.out k
                rw [decide_eq_false hq, Bool.false_or] at HJk
                have HJk := Lib.hid HJk
                obtain ⟨k1, hk1e⟩ : ∃ k1, (s.getD k (0, 0)).1 = k1 := ⟨_, rfl⟩
                have HBU : Hid (∀ x, busy l s k x = (!decide (l.getD x 0 = 0) && (decide ((s.getD x (0, 0)).1 ≤ k1) && decide (k1 < (s.getD x (0, 0)).2)))) := fun x => by rw [← hk1e]; rfl
                have HEx : Hid (∀ x, EA k x = (!decide (l.getD x 0 = 0) && (WV k x && decide (k1 < (s.getD x (0, 0)).2)))) := fun x => by rw [← hk1e]; exact HEk.out x
                rw [hk1e] at hs0
                clear HEk hk1e
                generalize busyTo l s k = BT at *
                generalize busy l s k = BU at *
                generalize EA k = EK at *
                generalize WV k = WK at *
                go_loopw [14, 15] (fun v14 v15 wr => ∃ x : Nat, v15 = .int .i64 (x : Int) ∧ v14 = .int .i64 (BT x : Int) ∧ x ≤ n ∧ Hid (∀ y, y < x → EK y = false) ∧ Hid (Box w ⟨types, blues, baddr, bcap, places, bays, some ⟨yb, yo, none⟩, ycap, chars, broker, least, sales⟩ wr)) (fun _ v _ => n - (intOf v).toNat)
                case atStart => exact ⟨0, rfl, by rw [HBT0.out]; rfl, Nat.zero_le _, fun y hy => absurd hy (Nat.not_lt_zero y), HB.out⟩
                case round =>
                  clear c0 c1 c2 c3 c4 c5 c6 c7 r3 hyr x0
                  obtain ⟨x, rfl, rfl, hx, HE, HBi⟩ := hrel
                  obtain ⟨c0, c1, c2, c3, c4, c5, c6, c7, r3, hyr⟩ := HBF.out _ HBi
                  have hBTx := HBTl.out x
                  by_cases hxl : x < n
                  · have dx : decide ((x : Int) < (n : Int)) = true := decide_eq_true (by omega)
                    have hx0 : (0 : Int) ≤ (x : Int) := by omega
                    have hx1 : (x : Int) < (n : Int) := by omega
                    obtain ⟨rb', ro', er, hrl', hrx⟩ := HA.out x (by rw [HLl.out]; exact hxl)
                    cases er
                    obtain ⟨sb', so', es, hsl', hsx0, hsx1⟩ := HST.out x (by rw [hn.out]; exact hxl)
                    cases es
                    have x0 := ((box_b HBi.out).cell (p := ⟨rb, ro + x, none⟩) hrl').trans hrx
                    have hrs : rb < wr.heap.size := Nat.lt_of_lt_of_le hrl' (box_b HBi.out).size
                    have HBTx := HBTs.out x
                    rw [HBU.out x] at HBTx
                    have HEy := HEx.out x
                    have CWx := Lib.hid (fun W h => CWk.out W x hxl h)
                    have HENx : Hid (EK x = true → V = false) := fun h => by
                      rw [HV3.out, range_no hkl]
                      rw [HJk.out, range_no hxl (by rw [h]; rfl)]
                      rfl
                    have HENy : Hid (EK x = false → ∀ y, y < x + 1 → EK y = false) := fun h y hy => by
                      by_cases hyx : y = x
                      · rw [hyx]; exact h
                      · exact HE.out y (by omega)
                    by_cases hqx : l.getD x 0 = 0
                    · rw [decide_eq_true hqx] at HBTx HEy
                      rw [hqx] at x0
                      have HE2 := Lib.hid (HENy.out (by rw [HEy]; rfl))
                      have HBn : Hid (BT (x + 1) = BT x) := by show _ = _; rw [HBTx]; rfl
                      clear hrx hsx0 hsx1 HBTx HEy
                      go_wp2
                      go_roundw
                      case rel => exact ⟨x + 1, by go_num, by rw [HBn.out], by omega, HE2.out, HBi.out⟩
                      case measure => simp [intOf]; omega
                    · rw [decide_eq_false hqx, Bool.not_false, Bool.true_and] at HBTx HEy
                      obtain ⟨qx, hqe⟩ : ∃ qx, l.getD x 0 = qx := ⟨_, rfl⟩
                      rw [hqe] at x0
                      have dqx : (qx == 0) = false := beq_eq_false_iff_ne.2 (by rw [← hqe]; exact hqx)
                      have HT00 : Hid (Wt w ⟨types, blues, baddr, bcap, places, bays, some ⟨yb, yo, none⟩, ycap, chars, broker, least, sales⟩ sb (so + k * 2) sb (so + x * 2 + 1) (.int .i64 k1) (s.getD x (0, 0)).2 wr) := ⟨HBi.out, hsbl, hsbl, hs0, hsx1⟩
                      generalize s.getD x (0, 0) = sx at *
                      obtain ⟨x1, x2⟩ := sx
                      dsimp only at HBTx HEy hsx0 hsx1 HT00
                      have HT0 := Lib.hid HT00.out
                      have HBTx := Lib.hid HBTx
                      clear hrx hqe HT00
                      cases hw : WK x with
                      | true =>
                        rw [hw] at CWx HEy
                        by_cases b2 : k1 < x2
                        · have e2 : decide (k1 < x2) = true := decide_eq_true b2
                          have HVf := Lib.hid (HENx.out (by rw [HEy, e2]; rfl))
                          go_upto_region 21 with (fail)
                          have HT1 := Lib.hid (Wt.next HT0 (Below.refl wr.heap.size wr).drew).out
                          go_region_held3 (fun V => V.cell? ⟨w.heap.size, 0, none⟩ = some (.int .i64 types) ∧ V.cell? ⟨w.heap.size, 1, none⟩ = some (.slice baddr n bcap) ∧ V.cell? ⟨w.heap.size, 2, none⟩ = some (.int .i64 places) ∧ V.cell? ⟨w.heap.size, 3, none⟩ = some (.slice (some ⟨yb, yo, none⟩) bays.length ycap) ∧ V.cell? ⟨w.heap.size, 4, none⟩ = some (.int .i64 chars) ∧ V.cell? ⟨w.heap.size, 5, none⟩ = some (.int .i64 broker) ∧ V.cell? ⟨w.heap.size, 6, none⟩ = some (.int .i64 least) ∧ V.cell? ⟨w.heap.size, 7, none⟩ = some (.int .i64 sales) ∧ V.cell? ⟨sb, so + k * 2, none⟩ = some (.int .i64 k1) ∧ V.cell? ⟨sb, so + x * 2 + 1, none⟩ = some (.int .i64 x2) ∧ Hid (Wt w ⟨types, blues, baddr, bcap, places, bays, some ⟨yb, yo, none⟩, ycap, chars, broker, least, sales⟩ sb (so + k * 2) sb (so + x * 2 + 1) (.int .i64 k1) x2 V)) (first | (rw [← hdb]; exact wt_flat HT2) | (rw [← hdb]; exact wt_flat HT1))
                            (first
                            | (go_at_call 32; (with_reducible refine (CWx.out _ (box_b HT1.out.box)).mono ?_); rintro e w3 ⟨rfl, hb3⟩; have HT2 := Lib.hid (Wt.next HT1 hb3).out))
                          go_wp2
                          go_ret
                          exact ⟨by rw [HVf.out]; rfl, box_b HT2.out.box⟩
                        · have e2 : decide (k1 < x2) = false := decide_eq_false b2
                          have HE2 := Lib.hid (HENy.out (by rw [HEy, e2]; rfl))
                          go_upto_region 21 with (fail)
                          have HT1 := Lib.hid (Wt.next HT0 (Below.refl wr.heap.size wr).drew).out
                          go_region_held3 (fun V => V.cell? ⟨w.heap.size, 0, none⟩ = some (.int .i64 types) ∧ V.cell? ⟨w.heap.size, 1, none⟩ = some (.slice baddr n bcap) ∧ V.cell? ⟨w.heap.size, 2, none⟩ = some (.int .i64 places) ∧ V.cell? ⟨w.heap.size, 3, none⟩ = some (.slice (some ⟨yb, yo, none⟩) bays.length ycap) ∧ V.cell? ⟨w.heap.size, 4, none⟩ = some (.int .i64 chars) ∧ V.cell? ⟨w.heap.size, 5, none⟩ = some (.int .i64 broker) ∧ V.cell? ⟨w.heap.size, 6, none⟩ = some (.int .i64 least) ∧ V.cell? ⟨w.heap.size, 7, none⟩ = some (.int .i64 sales) ∧ V.cell? ⟨sb, so + k * 2, none⟩ = some (.int .i64 k1) ∧ V.cell? ⟨sb, so + x * 2 + 1, none⟩ = some (.int .i64 x2) ∧ Hid (Wt w ⟨types, blues, baddr, bcap, places, bays, some ⟨yb, yo, none⟩, ycap, chars, broker, least, sales⟩ sb (so + k * 2) sb (so + x * 2 + 1) (.int .i64 k1) x2 V)) (first | (rw [← hdb]; exact wt_flat HT2) | (rw [← hdb]; exact wt_flat HT1))
                            (first
                            | (go_at_call 32; (with_reducible refine (CWx.out _ (box_b HT1.out.box)).mono ?_); rintro e w3 ⟨rfl, hb3⟩; have HT2 := Lib.hid (Wt.next HT1 hb3).out))
                          have HB3 : Hid (Box w ⟨types, blues, baddr, bcap, places, bays, some ⟨yb, yo, none⟩, ycap, chars, broker, least, sales⟩ w3) := HT2.out.box
                          have v0 := ((box_b HB3.out).cell (p := ⟨sb, so + k * 2, none⟩) hsbl).trans hs0
                          have v1 := ((box_b HB3.out).cell (p := ⟨sb, so + x * 2, none⟩) hsbl).trans hsx0
                          have v2 := ((box_b HB3.out).cell (p := ⟨sb, so + x * 2 + 1, none⟩) hsbl).trans hsx1
                          have hss3 : sb < w3.heap.size := Nat.lt_of_lt_of_le hsbl (box_b HB3.out).size
                          go_upto_region 23 with (fail)
                          by_cases b1 : x1 ≤ k1
                          · have e1 : decide (x1 ≤ k1) = true := decide_eq_true b1
                            have HBn : Hid (BT (x + 1) = BT x) := by show _ = _; rw [HBTx.out, e1, e2]; rfl
                            go_quiet (fail)
                            have HB4 : Hid (Box w ⟨types, blues, baddr, bcap, places, bays, some ⟨yb, yo, none⟩, ycap, chars, broker, least, sales⟩ (w3.drewN nq)) := box_next HB3.out (below_dN (Below.refl w3.heap.size w3) nq)
                            go_wp2
                            go_roundw
                            case rel => exact ⟨x + 1, by go_num, by rw [HBn.out], by omega, HE2.out, HB4.out⟩
                            case measure => simp [intOf]; omega
                          · have e1 : decide (x1 ≤ k1) = false := decide_eq_false b1
                            have HBn : Hid (BT (x + 1) = BT x) := by show _ = _; rw [HBTx.out, e1]; rfl
                            go_quiet (fail)
                            have HB4 : Hid (Box w ⟨types, blues, baddr, bcap, places, bays, some ⟨yb, yo, none⟩, ycap, chars, broker, least, sales⟩ (w3.drewN nq)) := box_next HB3.out (below_dN (Below.refl w3.heap.size w3) nq)
                            go_wp2
                            go_roundw
                            case rel => exact ⟨x + 1, by go_num, by rw [HBn.out], by omega, HE2.out, HB4.out⟩
                            case measure => simp [intOf]; omega
                      | false =>
                        rw [hw] at CWx HEy
                        have HE2 := Lib.hid (HENy.out (by rw [HEy]; rfl))
                        go_upto_region 21 with (fail)
                        have HT1 := Lib.hid (Wt.next HT0 (Below.refl wr.heap.size wr).drew).out
                        refine wp_region_held_drew (S := (fun V => V.cell? ⟨w.heap.size, 0, none⟩ = some (.int .i64 types) ∧ V.cell? ⟨w.heap.size, 1, none⟩ = some (.slice baddr n bcap) ∧ V.cell? ⟨w.heap.size, 2, none⟩ = some (.int .i64 places) ∧ V.cell? ⟨w.heap.size, 3, none⟩ = some (.slice (some ⟨yb, yo, none⟩) bays.length ycap) ∧ V.cell? ⟨w.heap.size, 4, none⟩ = some (.int .i64 chars) ∧ V.cell? ⟨w.heap.size, 5, none⟩ = some (.int .i64 broker) ∧ V.cell? ⟨w.heap.size, 6, none⟩ = some (.int .i64 least) ∧ V.cell? ⟨w.heap.size, 7, none⟩ = some (.int .i64 sales) ∧ V.cell? ⟨sb, so + k * 2, none⟩ = some (.int .i64 k1) ∧ V.cell? ⟨sb, so + x * 2 + 1, none⟩ = some (.int .i64 x2) ∧ Hid (Wt w ⟨types, blues, baddr, bcap, places, bays, some ⟨yb, yo, none⟩, ycap, chars, broker, least, sales⟩ sb (so + k * 2) sb (so + x * 2 + 1) (.int .i64 k1) x2 V))) (by kernel_rfl) (by rw [← hdb]; exact wt_flat HT1) (fun hHeld => ?_)
                        refine takeH (i := 0) (v := ?_) 122 rfl rfl (by kernel_rfl) (by kernel_rfl) (by kernel_rfl) (fun _ _ _ h => h) (Or.inl ⟨by rfl, ?_⟩) hHeld ?_
                        rotate_left
                        · intro w hSw; (try dsimp only at hSw); go_simp; (try with_reducible rfl)
                        try simp only [Act.put, List.setIfInBounds_toArray, List.set_cons_zero, List.set_cons_succ]
                        refine takeH (i := 1) (v := ?_) 123 rfl rfl (by kernel_rfl) (by kernel_rfl) (by kernel_rfl) (fun _ _ _ h => h) (Or.inl ⟨by rfl, ?_⟩) hHeld ?_
                        rotate_left
                        · intro w hSw; (try dsimp only at hSw); go_simp; (try with_reducible rfl)
                        try simp only [Act.put, List.setIfInBounds_toArray, List.set_cons_zero, List.set_cons_succ]
                        refine takeH (i := 2) (v := ?_) 124 rfl rfl (by kernel_rfl) (by kernel_rfl) (by kernel_rfl) (fun _ _ _ h => h) (Or.inl ⟨by rfl, ?_⟩) hHeld ?_
                        rotate_left
                        · intro w hSw; (try dsimp only at hSw); go_simp; (try with_reducible rfl)
                        try simp only [Act.put, List.setIfInBounds_toArray, List.set_cons_zero, List.set_cons_succ]
                        refine takeH (i := 3) (v := ?_) 125 rfl rfl (by kernel_rfl) (by kernel_rfl) (by kernel_rfl) (fun _ _ _ h => h) (Or.inl ⟨by rfl, ?_⟩) hHeld ?_
                        rotate_left
                        · intro w hSw; (try dsimp only at hSw); go_simp; (try with_reducible rfl)
                        try simp only [Act.put, List.setIfInBounds_toArray, List.set_cons_zero, List.set_cons_succ]
                        refine wpAnyH_ready (rs := [4]) (by kernel_rfl) (by simp) ?_
                        refine AllReadyH.cons rfl (fun K hK => ?_) AllReadyH.nil
                        go_simp
                        go_wp2_with ((go_at_call 32; (with_reducible refine (CWx.out _ (box_b HT1.out.box)).mono ?_); rintro e w3 ⟨rfl, hb3⟩; have HT2 := Lib.hid (Wt.next HT1 hb3).out))
                        refine hK.out _ _ (by rw [← hdb]; exact wt_flat HT2) (fun hHeld => ?_)
                        clear hK K
                        try simp only [Act.put, List.setIfInBounds_toArray, List.set_cons_zero, List.set_cons_succ]
                        refine takeH (i := 5) (v := ?_) 127 rfl rfl (by kernel_rfl) (by kernel_rfl) (by kernel_rfl) (fun _ _ _ h => h) (Or.inl ⟨by rfl, ?_⟩) hHeld ?_
                        rotate_left
                        · intro w hSw; (try dsimp only at hSw); go_simp; (try with_reducible rfl)
                        try simp only [Act.put, List.setIfInBounds_toArray, List.set_cons_zero, List.set_cons_succ]
                        refine takeH (i := 6) (v := undef) 128 rfl rfl (by kernel_rfl) (by kernel_rfl) (by kernel_rfl) (fun _ _ _ h => h) (Or.inr ⟨by kernel_rfl, rfl⟩) hHeld ?_
                        try simp only [Act.put, List.setIfInBounds_toArray, List.set_cons_zero, List.set_cons_succ]
                        refine takeH (i := 7) (v := undef) 129 rfl rfl (by kernel_rfl) (by kernel_rfl) (by kernel_rfl) (fun _ _ _ h => h) (Or.inr ⟨by kernel_rfl, rfl⟩) hHeld ?_
                        try simp only [Act.put, List.setIfInBounds_toArray, List.set_cons_zero, List.set_cons_succ]
                        refine takeH (i := 8) (v := undef) 130 rfl rfl (by kernel_rfl) (by kernel_rfl) (by kernel_rfl) (fun _ _ _ h => h) (Or.inr ⟨by kernel_rfl, rfl⟩) hHeld ?_
                        try simp only [Act.put, List.setIfInBounds_toArray, List.set_cons_zero, List.set_cons_succ]
                        refine takeH (i := 9) (v := undef) 131 rfl rfl (by kernel_rfl) (by kernel_rfl) (by kernel_rfl) (fun _ _ _ h => h) (Or.inr ⟨by kernel_rfl, rfl⟩) hHeld ?_
                        try simp only [Act.put, List.setIfInBounds_toArray, List.set_cons_zero, List.set_cons_succ]
                        refine takeH (i := 10) (v := undef) 132 rfl rfl (by kernel_rfl) (by kernel_rfl) (by kernel_rfl) (fun _ _ _ h => h) (Or.inr ⟨by kernel_rfl, rfl⟩) hHeld ?_
                        try simp only [Act.put, List.setIfInBounds_toArray, List.set_cons_zero, List.set_cons_succ]
                        refine takeH (i := 11) (v := undef) 133 rfl rfl (by kernel_rfl) (by kernel_rfl) (by kernel_rfl) (fun _ _ _ h => h) (Or.inr ⟨by kernel_rfl, rfl⟩) hHeld ?_
                        try simp only [Act.put, List.setIfInBounds_toArray, List.set_cons_zero, List.set_cons_succ]
                        refine takeH (i := 12) (v := undef) 134 rfl rfl (by kernel_rfl) (by kernel_rfl) (by kernel_rfl) (fun _ _ _ h => h) (Or.inr ⟨by kernel_rfl, rfl⟩) hHeld ?_
                        try simp only [Act.put, List.setIfInBounds_toArray, List.set_cons_zero, List.set_cons_succ]
                        refine takeH (i := 13) (v := undef) 135 rfl rfl (by kernel_rfl) (by kernel_rfl) (by kernel_rfl) (fun _ _ _ h => h) (Or.inr ⟨by kernel_rfl, rfl⟩) hHeld ?_
                        try simp only [Act.put, List.setIfInBounds_toArray, List.set_cons_zero, List.set_cons_succ]
                        refine takeH (i := 14) (v := undef) 136 rfl rfl (by kernel_rfl) (by kernel_rfl) (by kernel_rfl) (fun _ _ _ h => h) (Or.inr ⟨by kernel_rfl, rfl⟩) hHeld ?_
                        try simp only [Act.put, List.setIfInBounds_toArray, List.set_cons_zero, List.set_cons_succ]
                        refine takeH (i := 15) (v := undef) 137 rfl rfl (by kernel_rfl) (by kernel_rfl) (by kernel_rfl) (fun _ _ _ h => h) (Or.inr ⟨by kernel_rfl, rfl⟩) hHeld ?_
                        try simp only [Act.put, List.setIfInBounds_toArray, List.set_cons_zero, List.set_cons_succ]
                        refine takeH (i := 16) (v := undef) 138 rfl rfl (by kernel_rfl) (by kernel_rfl) (by kernel_rfl) (fun _ _ _ h => h) (Or.inr ⟨by kernel_rfl, rfl⟩) hHeld ?_
                        try simp only [Act.put, List.setIfInBounds_toArray, List.set_cons_zero, List.set_cons_succ]
                        refine takeH (i := 17) (v := ?_) 139 rfl rfl (by kernel_rfl) (by kernel_rfl) (by kernel_rfl) (fun _ _ _ h => h) (Or.inl ⟨by rfl, ?_⟩) hHeld ?_
                        rotate_left
                        · intro w hSw; (try dsimp only at hSw); go_simp; (try with_reducible rfl)
                        try simp only [Act.put, List.setIfInBounds_toArray, List.set_cons_zero, List.set_cons_succ]
                        refine wpAnyH_done (by kernel_rfl) ?_ _
                        have HB3 : Hid (Box w ⟨types, blues, baddr, bcap, places, bays, some ⟨yb, yo, none⟩, ycap, chars, broker, least, sales⟩ w3) := HT2.out.box
                        have v0 := ((box_b HB3.out).cell (p := ⟨sb, so + k * 2, none⟩) hsbl).trans hs0
                        have v1 := ((box_b HB3.out).cell (p := ⟨sb, so + x * 2, none⟩) hsbl).trans hsx0
                        have v2 := ((box_b HB3.out).cell (p := ⟨sb, so + x * 2 + 1, none⟩) hsbl).trans hsx1
                        have hss3 : sb < w3.heap.size := Nat.lt_of_lt_of_le hsbl (box_b HB3.out).size
                        go_upto_region 23 with (fail)
                        by_cases b1 : x1 ≤ k1
                        · have e1 : decide (x1 ≤ k1) = true := decide_eq_true b1
                          by_cases b2 : k1 < x2
                          · have e2 : decide (k1 < x2) = true := decide_eq_true b2
                            have HBn : Hid (BT (x + 1) = BT x + 1) := by show _ = _; rw [HBTx.out, e1, e2]; rfl
                            go_quiet (fail)
                            have HB4 : Hid (Box w ⟨types, blues, baddr, bcap, places, bays, some ⟨yb, yo, none⟩, ycap, chars, broker, least, sales⟩ (w3.drewN nq)) := box_next HB3.out (below_dN (Below.refl w3.heap.size w3) nq)
                            go_wp2
                            go_roundw
                            case rel => exact ⟨x + 1, by go_num, by rw [HBn.out]; go_num, by omega, HE2.out, HB4.out⟩
                            case measure => simp [intOf]; omega
                          · have e2 : decide (k1 < x2) = false := decide_eq_false b2
                            have HBn : Hid (BT (x + 1) = BT x) := by show _ = _; rw [HBTx.out, e1, e2]; rfl
                            go_quiet (fail)
                            have HB4 : Hid (Box w ⟨types, blues, baddr, bcap, places, bays, some ⟨yb, yo, none⟩, ycap, chars, broker, least, sales⟩ (w3.drewN nq)) := box_next HB3.out (below_dN (Below.refl w3.heap.size w3) nq)
                            go_wp2
                            go_roundw
                            case rel => exact ⟨x + 1, by go_num, by rw [HBn.out], by omega, HE2.out, HB4.out⟩
                            case measure => simp [intOf]; omega
                        · have e1 : decide (x1 ≤ k1) = false := decide_eq_false b1
                          have HBn : Hid (BT (x + 1) = BT x) := by show _ = _; rw [HBTx.out, e1]; rfl
                          go_quiet (fail)
                          have HB4 : Hid (Box w ⟨types, blues, baddr, bcap, places, bays, some ⟨yb, yo, none⟩, ycap, chars, broker, least, sales⟩ (w3.drewN nq)) := box_next HB3.out (below_dN (Below.refl w3.heap.size w3) nq)
                          go_wp2
                          go_roundw
                          case rel => exact ⟨x + 1, by go_num, by rw [HBn.out], by omega, HE2.out, HB4.out⟩
                          case measure => simp [intOf]; omega
                  · have dx : decide ((x : Int) < (n : Int)) = false := decide_eq_false (by omega)
                    have hx1 : ¬ (x : Int) < (n : Int) := by omega
                    have hxn : x = n := by omega
                    subst hxn
                    by_cases hd : mk < (BT x : Int)
                    · have dd : decide (mk < (BT x : Int)) = true := decide_eq_true hd
                      have HVf : Hid (V = false) := HNo.out (by rw [HJk.out, decide_eq_false (show ¬ ((BT x : Int) ≤ mk) by omega), Bool.and_false])
                      go_wp2
                      go_ret
                      exact ⟨by rw [HVf.out]; rfl, box_b HBi.out⟩
                    · have dd : decide (mk < (BT x : Int)) = false := decide_eq_false hd
                      have HY := Lib.hid (HYe.out (by rw [HJk.out, decide_eq_true (show (BT x : Int) ≤ mk by omega), range_all (fun y hy => by rw [HE.out y hy]; rfl)]; rfl))
                      go_wp2
                      go_roundw
                      case rel => exact ⟨k + 1, by go_num, by omega, HY.out, HBi.out⟩
                      case measure => simp [intOf]; omega
            · have dk : decide ((k : Int) < (n : Int)) = false := decide_eq_false (by omega)
              have hk1 : ¬ (k : Int) < (n : Int) := by omega
              have HVt : Hid (V = true) := by show V = true; rw [HV3.out, range_all (fun j hj => HF.out j (by omega))]
              go_wp2
              go_ret
              exact ⟨by rw [HVt.out]; rfl, box_b HB.out⟩
    · have HVf : Hid (V = false) := by show V = false; rw [HV.out, decide_eq_false hsl]; simp
      have ds : ((s.length : Int) != (c.blues.length : Int)) = true := bne_iff_ne.2 (by omega)
      have hnb := hc.small.1
      clear HV hc ha hst hm hr hlen
      unfold CatIn.val at *
      go_enter Try.func16, Try.ntmps16
      go_wp2_with (go_at_call 31; (with_reducible refine (CM.out _ (box_b HB0.out)).mono ?_); rintro e w1 ⟨rfl, hb1⟩; have HB1 := Lib.hid (box_next HB0.out hb1); clear hb1; obtain ⟨c0, c1, c2, c3, c4, c5, c6, c7, -⟩ := box_flat HB1)
      go_ret
      exact ⟨by rw [HVf.out]; rfl, box_b HB1.out⟩
  · have HVf : Hid (V = false) := by show V = false; rw [HV.out, decide_eq_false hm]; rfl
    have dm : (mayV c bay l level != 0) = true := bne_iff_ne.2 hm
    generalize mayV c bay l level = M at *
    clear hc ha HV hst
    unfold CatIn.val at *
    go_enter Try.func16, Try.ntmps16
    go_wp2_with (go_at_call 31; (with_reducible refine (CM.out _ (box_b HB0.out)).mono ?_); rintro e w1 ⟨rfl, hb1⟩)
    go_ret
    exact ⟨by rw [HVf.out]; rfl, below2 (box_b HB0.out) hb1⟩
end Quo
end Go.Proofs.Ytiabnjmblcogmaa
end
