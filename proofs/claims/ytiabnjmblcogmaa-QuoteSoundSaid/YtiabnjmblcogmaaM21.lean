/- Texts put together: QuoX. -/
import Derived.Test.YtiabnjmblcogmaaM20
set_option linter.all false
section
namespace Go.Proofs.Ytiabnjmblcogmaa
open Go.RowKit
namespace Quo
open Cat (CatIn BayIn chkC nob noy makerV Cam Box box_new box_b box_next box_flat)
open Rec (BlueIn Stk Stks stkVals)
open Pen (below2 below_al below_dN)
/-- What lies while jobs are looked at: nothing that lay has changed; the row of spans that is left. -/
structure FW (W1 : World) (n : Nat) (v : Value) (sl : List Stk) (W : World) : Prop where
  fr : Below W1.heap.size W1 W
  own : W.ownsRow W1.heap.size 46 2 v n (stkVals sl)
section
variable {W1 W W' : World} {n : Nat} {v : Value} {sl : List Stk}
theorem FW.below (h : FW W1 n v sl W) (hb : Below W.heap.size W W') : FW W1 n v sl W' := ⟨h.fr.trans (hb.mono h.fr.size), Own.own_below h.own hb⟩
theorem FW.alloc (h : FW W1 n v sl W) (o : Obj) : FW W1 n v sl (W.alloc o) := h.below (below_al (Below.refl _ _) _)
theorem FW.cells {g cap : Nat} (h : FW W1 n (.slice (some ⟨g, 0, none⟩) n cap) sl W) (hl : sl.length = n) {k : Nat} (hk : k < n) : W.cell? ⟨g, k * 2, none⟩ = some (.int .i64 (sl.getD k (0, 0)).1) ∧ W.cell? ⟨g, k * 2 + 1, none⟩ = some (.int .i64 (sl.getD k (0, 0)).2) ∧ W.frozen? ⟨g, k * 2, none⟩ = false ∧ W.frozen? ⟨g, k * 2 + 1, none⟩ = false ∧ g < W.heap.size := by
  have hg := flat_get3 (fun x : Stk => [Value.int .i64 x.1, Value.int .i64 x.2]) 2 (fun _ => rfl) sl (0, 0) k
  refine ⟨?_, ?_, h.own.frozenAt _, h.own.frozenAt _, (h.own.lt g rfl).2⟩
  · rw [h.own.cellAt (k * 2) (by omega)]
    exact hg 0 (by omega) (by decide)
  · rw [h.own.cellAt (k * 2 + 1) (by omega)]
    exact hg 1 (by omega) (by decide)
theorem FW.zero {g cap : Nat} (h : FW W1 n (.slice (some ⟨g, 0, none⟩) n cap) sl W) (hl : sl.length = n) {k : Nat} (hk : k < n) : FW W1 n (.slice (some ⟨g, 0, none⟩) n cap) (sl.set k (0, 0)) ((W.setCell ⟨g, k * 2, none⟩ (.int .i64 0)).setCell ⟨g, k * 2 + 1, none⟩ (.int .i64 0)) := by
  have hg := (h.own.lt g rfl).1
  refine ⟨(h.fr.setCell hg _).setCell hg _, ?_⟩
  rw [stkVals_set _ _ _ (by omega)]
  exact ((h.own.stored (k * 2) (.int .i64 0)).1.stored (k * 2 + 1) (.int .i64 0)).1
end
theorem ints_of_waits {w : World} {base : Nat} {j : JobIn} (h : WaitsAt w base j) : In.Ints .i64 w j.wa j.waits := by
  obtain ⟨a, cap, e, hi⟩ := ints_of_own h
  injection e with h1 h2 h3
  rw [h1]
  exact hi
theorem early_call {W : World} (gx gl : Nat) (x1 : Int) (s : List Stk) (hs : s.length ≤ 4096) (sa : Option Addr) (scap : Nat) (wa : Option Addr) (wc : Nat) (ws : List Int) (hl : ws.length ≤ 4096) (hws : ∀ x, x ∈ ws → 0 ≤ x ∧ x < (s.length : Int)) (h0 : W.cell? ⟨gx, 0, none⟩ = some (.int .i64 x1)) (g0 : gx < W.heap.size) (h1 : W.cell? ⟨gl, 0, none⟩ = some (.slice sa s.length scap)) (g1 : gl < W.heap.size) (hS : Stks W sa s) (hI : In.Ints .i64 W wa ws) :
    Calls Try.prog 23 #[.slice wa ws.length wc, .func (.func 39) #[] #[.pointer (some ⟨gx, 0, none⟩), .pointer (some ⟨gl, 0, none⟩)]] W fun e w' => e = .returned (.bool (ws.any (earlyJ s x1))) ∧ Below W.heap.size W w' := by
  refine containsF1_any wa wc ws hl W hI _ _ (earlyJ s x1) fun V k hk hb => ?_
  obtain ⟨m0, m1⟩ := hws (ws.getD k 0) (getD_mem' hk 0)
  obtain ⟨m, hm⟩ : ∃ m : Nat, ws.getD k 0 = (m : Int) := ⟨(ws.getD k 0).toNat, by omega⟩
  have := fits1_any gx gl x1 s hs sa scap m (by omega) V ((hb.cell (p := ⟨gx, 0, none⟩) g0).trans h0) ((hb.cell (p := ⟨gl, 0, none⟩) g1).trans h1) (hS.below hb)
  rw [hm]
  unfold earlyJ
  rw [Int.toNat_natCast]
  exact this
/-- The row of a shop's spans lies in a block where there is one. -/
theorem own_some {w : World} {base : Nat} {e : TypeId} {size n : Nat} {va : Option Addr} {vc : Nat} {xs : List Value} (h : w.ownsRow base e size (.slice va n vc) n xs) (hn : 0 < n) : ∃ g, va = some ⟨g, 0, none⟩ ∧ base ≤ g ∧ g < w.heap.size := by
  rcases h.2 with ⟨-, h0⟩ | ⟨g, cap, cur, hv, hb, hg, -⟩
  · omega
  · injection hv with h1 h2 h3
    exact ⟨g, h1, hb, (Array.getElem?_eq_some_iff.1 hg).1⟩
set_option maxRecDepth 100000 in
set_option maxHeartbeats 16000000 in
theorem fits_any (c : CatIn) (w : World) (hc : Cam w c) (bay : Int) (a : Option Addr) (cap : Nat) (l : List Int) (hl : l.length ≤ 20) (ha : In.Ints .i64 w a l) (level : Int) (sa : Option Addr) (scap : Nat) (s : List Stk) (hs : s.length ≤ 20) (hst : Stks w sa s) (hsn : ∀ i, i < s.length → (Lit.int .i64 (s.getD i (0, 0)).2).wf = true) :
    Calls Try.prog 15 #[.agg c.val, .int .i64 bay, .slice a l.length cap, .int .i64 level, .slice sa s.length scap] w fun e w' => e = .returned (.bool (fitsV c bay l level s)) ∧ Below w.heap.size w w' := by
  have HB0 := Lib.hid (box_new w c 27)
  have HV : Hid (fitsV c bay l level s = (decide (mayV c bay l level = 0) && (decide (s.length = c.blues.length) && ((List.range s.length).all (spanOk c l level s) && (List.range s.length).all (jobOk c bay l s))))) := rfl
  have hBL : Hid (Below w.heap.size w ((w.alloc (.cells c.val 27)).alloc (.cells #[.slice sa s.length scap] 32))) := below_al (box_b HB0.out) _
  have HL0 : Hid (((w.alloc (.cells c.val 27)).alloc (.cells #[.slice sa s.length scap] 32)).cell? ⟨w.heap.size + 1, 0, none⟩ = some (.slice sa s.length scap)) := by show _ = _; go_simp
  have HL1 : Hid (w.heap.size + 1 < ((w.alloc (.cells c.val 27)).alloc (.cells #[.slice sa s.length scap] 32)).heap.size) := by show _ < _; simp
  have hnb := hc.small.1
  by_cases hm : mayV c bay l level = 0
  · have CM : Hid (∀ W, Below w.heap.size w W → Calls Try.prog 19 #[.agg c.val, .int .i64 bay, .slice a l.length cap, .int .i64 level] W (Made c l level (c.bays.getD (bay.toNat - 1) noy) c.blues.length W)) := fun W h => made_yes c W (hc.below h) bay a cap l hl (ha.below h) level hm
    by_cases hsl : s.length = c.blues.length
    · obtain ⟨hK, hb1, hb2, hr, -, -⟩ := mayV_ok hm
      have hlen := runsOk_len hr
      have hnn : ∀ k, k < l.length → 0 ≤ l.getD k 0 := fun k hk => (run_of hr k hk).1
      obtain ⟨n, hn⟩ : ∃ n, Hid (c.blues.length = n) := ⟨_, rfl⟩
      have hmk : makeOf c bay = (c.bays.getD (bay.toNat - 1) noy).make := rfl
      have HV2 : Hid (fitsV c bay l level s = ((List.range s.length).all (spanOk c l level s) && (List.range s.length).all (jobOk c bay l s))) := by show _ = _; rw [HV.out, decide_eq_true hm, decide_eq_true hsl]; rfl
      have HNS : Hid (∀ k, k < s.length → spanOk c l level s k = false → fitsV c bay l level s = false) := fun k hk h => by rw [HV2.out, range_no hk h]; rfl
      have HNJ : Hid (∀ k, k < s.length → jobOk c bay l s k = false → fitsV c bay l level s = false) := fun k hk h => by rw [HV2.out, range_no (P := jobOk c bay l s) hk h, Bool.and_false]
      have HEND : Hid (∀ W base L, JobsOk c l level c.blues.length W base L → (∀ i, i < L.length → spanOk c l level s (L.getD i noj).blue = true ∧ jobOk c bay l s (L.getD i noj).blue = true) → fitsV c bay l level s = !((zeroTo s L L.length).any notZero)) := fun W base L h h2 => by rw [HV2.out]; exact fits_end h hsl h2
      have HSP : Hid (∀ W base L, JobsOk c l level c.blues.length W base L → ∀ i, i < L.length → spanOk c l level s (L.getD i noj).blue = (decide (0 ≤ (s.getD (L.getD i noj).blue (0, 0)).1) && (decide ((L.getD i noj).time ≤ (s.getD (L.getD i noj).blue (0, 0)).2) && decide ((s.getD (L.getD i noj).blue (0, 0)).2 - (L.getD i noj).time = (s.getD (L.getD i noj).blue (0, 0)).1)))) := fun W base L h i hi => by
        unfold spanOk
        rw [if_neg (h.blue_mem hi).2, h.time _ (getD_mem' hi noj)]
      have HJO : Hid (∀ W base L, JobsOk c l level c.blues.length W base L → ∀ i, i < L.length → jobOk c bay l s (L.getD i noj).blue = (!((L.getD i noj).waits.any (earlyJ s (s.getD (L.getD i noj).blue (0, 0)).1)) && decide ((busyJ s L (s.getD (L.getD i noj).blue (0, 0)).1 L.length : Int) ≤ (c.bays.getD (bay.toNat - 1) noy).make))) := fun W base L h i hi => by
        unfold jobOk
        rw [decide_eq_false (h.blue_mem hi).2, Bool.false_or, h.waits _ (getD_mem' hi noj), early_any hnn, hmk, busyJ_all h, hsl, Bool.not_not]
      have HWS : Hid (∀ W base L, JobsOk c l level c.blues.length W base L → ∀ i, i < L.length → (L.getD i noj).blue < c.blues.length ∧ (L.getD i noj).waits.length ≤ 4096 ∧ ∀ x, x ∈ (L.getD i noj).waits → 0 ≤ x ∧ x < (c.blues.length : Int)) := fun W base L h i hi => by
        have e := h.waits _ (getD_mem' hi noj)
        refine ⟨(h.blue_mem hi).1, ?_, fun x hx => ?_⟩
        · rw [e, ← waitsTo_all]
          have h2 := waitsTo_len c l (L.getD i noj).blue (c.blues.getD (L.getD i noj).blue nob).needs.length
          have h3 := hc.small.2.2 (L.getD i noj).blue (h.blue_mem hi).1
          omega
        · rw [e] at hx
          exact mem_waitsL hx
      have HTB : Hid (∀ W base L, JobsOk c l level c.blues.length W base L → ∀ i, i < L.length → 0 ≤ (L.getD i noj).time ∧ (L.getD i noj).time ≤ 109951162777600099) := fun W base L h i hi => by
        rw [h.time _ (getD_mem' hi noj)]
        exact time_le _ _ _
      have HLL : Hid (∀ W base L, JobsOk c l level c.blues.length W base L → L.length ≤ 20) := fun W base L h => by have := h.len; omega
      have HST := Lib.hid hst
      have HSN := Lib.hid hsn
      generalize fitsV c bay l level s = V at *
      obtain ⟨SP, hSP⟩ : ∃ SP, spanOk c l level s = SP := ⟨_, rfl⟩
      obtain ⟨JO, hJO⟩ : ∃ JO, jobOk c bay l s = JO := ⟨_, rfl⟩
      rw [hSP] at HNS HEND HSP
      rw [hJO] at HNJ HEND HJO
      generalize c.bays.getD (bay.toNat - 1) noy = Y at *
      rw [hn.out] at CM hsl hnb HEND HSP HJO HWS HTB HLL
      obtain ⟨pl, mk, lb, rt⟩ := Y
      dsimp only at HJO
      clear HV HV2 hc ha hst hsn hm hK hb1 hb2 hr hlen hnn hmk hSP hJO
      have HSL : Hid (s.length = n) := hsl
      rw [hsl] at hBL HL0 HL1 HNS HNJ hs ⊢
      clear hsl
      unfold CatIn.val at *
      rw [hn.out] at CM hBL HL0 HL1 ⊢
      go_enter Try.func15, Try.ntmps15
      go_upto_region 2 with (go_at_call 19; (with_reducible refine (CM.out _ hBL.out).mono ?_); rintro e w1 ⟨g, L, v, rfl, HS1, HB1⟩; have HB2 := Lib.hid (below2 hBL.out HB1.out); have l0 := (HB1.out.cell (p := ⟨w.heap.size + 1, 0, none⟩) HL1.out).trans HL0.out; have l1 := Nat.lt_of_lt_of_le HL1.out HB1.out.size; have g4 : w1.cell? ⟨g, 4, none⟩ = some (.int .i64 (n : Int)) := HS1.out.row.cell (by decide))
      go_quiet (fail)
      have HSh := Lib.hid (HS1.out.below (below_dN (Below.refl w1.heap.size w1) nq))
      have HBs : Hid (Below w.heap.size w (w1.drewN nq)) := below_dN HB2.out nq
      have k0 : (w1.drewN nq).cell? ⟨w.heap.size + 1, 0, none⟩ = some (.slice sa n scap) := l0
      have k1 : w.heap.size + 1 < (w1.drewN nq).heap.size := l1
      clear HS1 HB1 HB2 l0 l1 g4 hBL HL0 HL1 CM
      generalize w1.drewN nq = w2 at *
      have HSt2 := Lib.hid (HST.out.below HBs.out)
      have CL := cloneSpan_any sa scap s (by rw [HSL.out]; omega) w2 HSt2.out
      rw [HSL.out] at CL
      have HSPj := Lib.hid (HSP.out _ _ _ HSh.out.jobs)
      have HJOj := Lib.hid (HJO.out _ _ _ HSh.out.jobs)
      have HWSj := Lib.hid (HWS.out _ _ _ HSh.out.jobs)
      have HTBj := Lib.hid (HTB.out _ _ _ HSh.out.jobs)
      have HENDj := Lib.hid (HEND.out _ _ _ HSh.out.jobs)
      have hLL := HLL.out _ _ _ HSh.out.jobs
      replace CL := Lib.hid CL
      clear HSP HJO HWS HTB HEND HLL
      obtain ⟨ja, jc, hje⟩ := own_slice HSh.out.own
      subst hje
      have q5 : w2.cell? ⟨g, 5, none⟩ = some (.slice ja L.length jc) := HSh.out.row.cell (by decide)
      have q1 : w2.cell? ⟨g, 1, none⟩ = some (.int .i64 mk) := HSh.out.row.cell (by decide)
      have gl := HSh.out.lt
      go_wp2_with (go_at_call 38; (with_reducible refine CL.out.mono ?_); rintro e w3 ⟨v', rfl, HO3, HB3⟩; have p5 := (HB3.out.cell (p := ⟨g, 5, none⟩) gl).trans q5; obtain ⟨ra, rc, hre⟩ := own_slice HO3.out; subst hre)
      have HF0 : Hid (FW w2 n (.slice ra n rc) s w3) := ⟨HB3.out, HO3.out⟩
      clear HB3 HO3 p5
      go_loopw [47] (fun v47 wr => ∃ i : Nat, v47 = .int .i64 (i : Int) ∧ i ≤ L.length ∧ Hid (∀ x, x < i → SP (L.getD x noj).blue = true ∧ JO (L.getD x noj).blue = true) ∧ Hid (FW w2 n (.slice ra n rc) (zeroTo s L i) wr)) (fun v47 _ => L.length - (intOf v47).toNat)
      case atStart => exact ⟨0, rfl, Nat.zero_le _, fun x hx => absurd hx (Nat.not_lt_zero x), HF0.out⟩
      case round =>
        clear HF0
        obtain ⟨i, rfl, hi, HF, HW⟩ := hrel
        obtain ⟨wo, hwo⟩ : ∃ wo, wo = wr := ⟨_, rfl⟩
        subst hwo
        by_cases hil : i < L.length
        · have di : decide ((i : Int) < (L.length : Int)) = true := decide_eq_true (by omega)
          have hi1 : (i : Int) < (L.length : Int) := by omega
          have hi00 : (0 : Int) ≤ (i : Int) := by omega
          have hi20 : (i : Int) ≤ 20 := by omega
          have HA0 := Lib.hid (HSPj.out i hil)
          have HJ0 := Lib.hid (HJOj.out i hil)
          obtain ⟨hbn, hwl, hwb⟩ := HWSj.out i hil
          have hwb := Lib.hid hwb
          obtain ⟨hT0, hT1⟩ := HTBj.out i hil
          have HW1 := Lib.hid (HSh.out.jobs.lies _ (getD_mem' hil noj))
          have hNS := Lib.hid (HNS.out _ hbn)
          have hNJ := Lib.hid (HNJ.out _ hbn)
          have HNx : Hid (SP (L.getD i noj).blue = true → JO (L.getD i noj).blue = true → ∀ x, x < i + 1 → SP (L.getD x noj).blue = true ∧ JO (L.getD x noj).blue = true) := fun h h2 x hx => by
            by_cases e : x = i
            · rw [e]; exact ⟨h, h2⟩
            · exact HF.out x (by omega)
          have HZ : Hid (zeroTo s L (i + 1) = (zeroTo s L i).set (L.getD i noj).blue (0, 0)) := rfl
          obtain ⟨gb, jc2, hje, hgb, x0, x1', x2'⟩ := HSh.out.job hil
          injection hje with hja hjl hjc
          subst hja
          subst hjc
          clear hjl
          have hbl0 : (0 : Int) ≤ ((L.getD i noj).blue : Int) := by omega
          have hbl1 : ((L.getD i noj).blue : Int) < (n : Int) := by omega
          have hbl20 : ((L.getD i noj).blue : Int) ≤ 20 := by omega
          obtain ⟨gs, hra, hgs0, hgs1⟩ := own_some HW.out.own (by omega)
          subst hra
          obtain ⟨sb, so, rfl, hsb, s0, s1⟩ := HST.out (L.getD i noj).blue (by rw [HSL.out]; exact hbn)
          have hwf := HSN.out (L.getD i noj).blue (by rw [HSL.out]; exact hbn)
          generalize L.getD i noj = J at *
          obtain ⟨bl, wa, wc, ws, T⟩ := J
          dsimp only at *
          generalize hsk : s.getD bl (0, 0) = sk at *
          replace hsk := Lib.hid hsk
          obtain ⟨x1, x2⟩ := sk
          dsimp only at HA0 HJ0 s0 s1 hwf
          have hw3 : -9223372036854775808 ≤ x2 ∧ x2 ≤ 9223372036854775807 := by
            simp [Lit.wf, IntKind.min, IntKind.max, IntKind.signed, IntKind.bits] at hwf
            exact hwf
          have y0 := (HW.out.fr.cell (p := ⟨gb, i * 3, none⟩) hgb).trans x0
          have y1 := (HW.out.fr.cell (p := ⟨gb, i * 3 + 1, none⟩) hgb).trans x1'
          have y2 := (HW.out.fr.cell (p := ⟨gb, i * 3 + 2, none⟩) hgb).trans x2'
          have hgbr := Nat.lt_of_lt_of_le hgb HW.out.fr.size
          have z0 := (HW.out.fr.cell (p := ⟨sb, so + bl * 2, none⟩) (Nat.lt_of_lt_of_le hsb HBs.out.size)).trans ((HBs.out.cell (p := ⟨sb, so + bl * 2, none⟩) hsb).trans s0)
          have z1 := (HW.out.fr.cell (p := ⟨sb, so + bl * 2 + 1, none⟩) (Nat.lt_of_lt_of_le hsb HBs.out.size)).trans ((HBs.out.cell (p := ⟨sb, so + bl * 2 + 1, none⟩) hsb).trans s1)
          have hsbr := Nat.lt_of_lt_of_le (Nat.lt_of_lt_of_le hsb HBs.out.size) HW.out.fr.size
          have r0 := (HW.out.fr.cell (p := ⟨w.heap.size + 1, 0, none⟩) k1).trans k0
          have hk1r := Nat.lt_of_lt_of_le k1 HW.out.fr.size
          have HF4 : Hid (FW w2 n (.slice (some ⟨gs, 0, none⟩) n rc) (zeroTo s L i) ((wo.alloc (.cells #[.int .i64 (bl : Int), .slice wa ws.length wc, .int .i64 T] 62)).alloc (.cells #[.int .i64 x1, .int .i64 x2] 46))) := (HW.out.alloc _).alloc _
          clear x0 x1' x2' s0 s1 hwf
          by_cases g1 : x1 < 0
          · have d1 : decide (x1 < 0) = true := decide_eq_true g1
            have HN : Hid (V = false) := hNS.out (by rw [HA0.out, decide_eq_false (show ¬ 0 ≤ x1 by omega)]; rfl)
            go_wp2
            go_ret
            exact ⟨by rw [HN.out]; rfl, below2 HBs.out HF4.out.fr⟩
          · have d1 : decide (x1 < 0) = false := decide_eq_false g1
            by_cases g2 : x2 < T
            · have d2 : decide (x2 < T) = true := decide_eq_true g2
              have HN : Hid (V = false) := hNS.out (by rw [HA0.out, decide_eq_false (show ¬ T ≤ x2 by omega), Bool.false_and, Bool.and_false])
              go_wp2
              go_ret
              exact ⟨by rw [HN.out]; rfl, below2 HBs.out HF4.out.fr⟩
            · have d2 : decide (x2 < T) = false := decide_eq_false g2
              have ew : IntKind.i64.wrap (x2 - T) = x2 - T := by rw [IntKind.wrap_i64]; omega
              by_cases g3 : x2 - T = x1
              · have d3 : (x2 - T != x1) = false := bne_eq_false_iff_eq.2 g3
                have HSPt : Hid (SP bl = true) := by show SP bl = true; rw [HA0.out, decide_eq_true (show 0 ≤ x1 by omega), decide_eq_true (show T ≤ x2 by omega), decide_eq_true g3]; rfl
                have HI := Lib.hid (In.Ints.below (ints_of_waits HW1.out) (HF4.out.fr))
                have CE := Lib.hid (early_call (W := (wo.alloc (.cells #[.int .i64 (bl : Int), .slice wa ws.length wc, .int .i64 T] 62)).alloc (.cells #[.int .i64 x1, .int .i64 x2] 46)) (wo.heap.size + 1) (w.heap.size + 1) x1 s (by rw [HSL.out]; omega) (some ⟨sb, so, none⟩) scap wa wc ws hwl (by rw [HSL.out]; exact hwb.out) (by go_simp) (by simp) (by rw [HSL.out]; exact (((below_al (below_al (Below.refl wo.heap.size wo) (.cells #[.int .i64 (bl : Int), .slice wa ws.length wc, .int .i64 T] 62)) (.cells #[.int .i64 x1, .int .i64 x2] 46))).cell (p := ⟨w.heap.size + 1, 0, none⟩) hk1r).trans r0) (by simp; omega) (HSt2.out.below HF4.out.fr) HI.out)
                cases hE : ws.any (earlyJ s x1) with
                | true =>
                  rw [hE] at CE HJ0
                  have HN : Hid (V = false) := hNJ.out (by rw [HJ0.out]; rfl)
                  go_wp2_with (go_at_call 23; (with_reducible refine CE.out.mono ?_); rintro e w5 ⟨rfl, hb5⟩; have HF5 := Lib.hid (HF4.out.below hb5); have B5 := Lib.hid hb5)
                  go_ret
                  exact ⟨by rw [HN.out]; rfl, below2 HBs.out HF5.out.fr⟩
                | false =>
                  rw [hE, Bool.not_false, Bool.true_and] at HJ0
                  rw [hE] at CE
                  clear hE
                  have HJ1 : Hid (JO bl = decide ((busyJ s L x1 L.length : Int) ≤ mk)) := HJ0.out
                  have HBJ0 : Hid (busyJ s L x1 0 = 0) := rfl
                  have HBJS : Hid (∀ m, busyJ s L x1 (m + 1) = busyJ s L x1 m + if inSpan x1 (s.getD (L.getD m noj).blue (0, 0)) then 1 else 0) := fun m => rfl
                  have HBJL : Hid (∀ m, busyJ s L x1 m ≤ m) := busyJ_le s L x1
                  generalize busyJ s L x1 = BJ at *
                  clear HJ0
                  have d1x : Hid (((wo.alloc (.cells #[.int .i64 (bl : Int), .slice wa ws.length wc, .int .i64 T] 62)).alloc (.cells #[.int .i64 x1, .int .i64 x2] 46)).cell? ⟨wo.heap.size, 0, none⟩ = some (.int .i64 (bl : Int)) ∧ ((wo.alloc (.cells #[.int .i64 (bl : Int), .slice wa ws.length wc, .int .i64 T] 62)).alloc (.cells #[.int .i64 x1, .int .i64 x2] 46)).cell? ⟨wo.heap.size + 1, 0, none⟩ = some (.int .i64 x1) ∧ ((wo.alloc (.cells #[.int .i64 (bl : Int), .slice wa ws.length wc, .int .i64 T] 62)).alloc (.cells #[.int .i64 x1, .int .i64 x2] 46)).cell? ⟨wo.heap.size + 1, 1, none⟩ = some (.int .i64 x2) ∧ wo.heap.size + 1 < ((wo.alloc (.cells #[.int .i64 (bl : Int), .slice wa ws.length wc, .int .i64 T] 62)).alloc (.cells #[.int .i64 x1, .int .i64 x2] 46)).heap.size) := ⟨by go_simp, by go_simp, by go_simp, by simp⟩
                  go_upto_region 15 with (go_at_call 23; (with_reducible refine CE.out.mono ?_); rintro e w5 ⟨rfl, hb5⟩; have HF5 := Lib.hid (HF4.out.below hb5); have B5 := Lib.hid hb5; have p5 := (HF5.out.fr.cell (p := ⟨g, 5, none⟩) gl).trans q5)
                  generalize ((wo.alloc (.cells #[.int .i64 (bl : Int), .slice wa ws.length wc, .int .i64 T] 62)).alloc (.cells #[.int .i64 x1, .int .i64 x2] 46)) = w4 at *
                  obtain ⟨e0, e1, e2, e3⟩ := d1x.out
                  have H50 := Lib.hid ((B5.out.cell (p := ⟨wo.heap.size, 0, none⟩) (by show wo.heap.size < _; omega)).trans e0)
                  have H51 := Lib.hid ((B5.out.cell (p := ⟨wo.heap.size + 1, 0, none⟩) e3).trans e1)
                  have H53 := Lib.hid (Nat.lt_of_lt_of_le e3 B5.out.size)
                  clear e0 e1 e2 e3 B5 d1x
                  clear y0 y1 y2 z0 z1 r0 p5 hgbr hsbr hk1r HF4 CE
                  go_loopw [17, 85] (fun v17 v85 wr => ∃ m : Nat, v85 = .int .i64 (m : Int) ∧ v17 = .int .i64 (BJ m : Int) ∧ m ≤ L.length ∧ Hid (FW w2 n (.slice (some ⟨gs, 0, none⟩) n rc) (zeroTo s L i) wr) ∧ Hid (Below w5.heap.size w5 wr)) (fun _ v85 _ => L.length - (intOf v85).toNat)
                  case atStart => exact ⟨0, rfl, by rw [HBJ0.out]; rfl, Nat.zero_le _, HF5.out, Below.refl _ _⟩
                  case round =>
                    obtain ⟨m, rfl, rfl, hml, HWm, HBm⟩ := hrel
                    have hBm := HBJL.out m
                    have hs5 := H53.out
                    have u0 := (HBm.out.cell (p := ⟨wo.heap.size, 0, none⟩) (by show wo.heap.size < _; omega)).trans H50.out
                    have u1 := (HBm.out.cell (p := ⟨wo.heap.size + 1, 0, none⟩) hs5).trans H51.out
                    have u3 := Nat.lt_of_lt_of_le hs5 HBm.out.size
                    have u4 : wo.heap.size < wr.heap.size := by omega
                    by_cases hmL : m < L.length
                    · have dm2 : decide ((m : Int) < (L.length : Int)) = true := decide_eq_true (by omega)
                      have hm1 : (m : Int) < (L.length : Int) := by omega
                      have hm00 : (0 : Int) ≤ (m : Int) := by omega
                      have hm20 : (m : Int) ≤ 20 := by omega
                      obtain ⟨hbn2, -, -⟩ := HWSj.out m hmL
                      obtain ⟨gb2, jc3, hje2, hgb2, x0, x1', x2'⟩ := HSh.out.job hmL
                      injection hje2 with hja2 hjl2 hjc2
                      injection hja2 with hja3
                      injection hja3 with hja4
                      subst hja4
                      clear hjl2 hjc2
                      have hHBJ := HBJS.out m
                      obtain ⟨sb2, so2, hsa2, hsb2, s0, s1⟩ := HST.out (L.getD m noj).blue (by rw [HSL.out]; exact hbn2)
                      injection hsa2 with hsa3
                      injection hsa3 with hsa4 hsa5
                      subst hsa4
                      subst hsa5
                      have hbl0 : (0 : Int) ≤ ((L.getD m noj).blue : Int) := by omega
                      have hbl1 : ((L.getD m noj).blue : Int) < (n : Int) := by omega
                      have hbl20 : ((L.getD m noj).blue : Int) ≤ 20 := by omega
                      generalize L.getD m noj = J2 at *
                      obtain ⟨bl2, wa2, wc2, ws2, T2⟩ := J2
                      dsimp only at *
                      generalize s.getD bl2 (0, 0) = sk2 at *
                      obtain ⟨y1, y2⟩ := sk2
                      dsimp only at s0 s1
                      unfold inSpan at hHBJ
                      dsimp only at hHBJ
                      have HHB := Lib.hid hHBJ
                      clear hHBJ
                      have v0 := (HWm.out.fr.cell (p := ⟨gb, m * 3, none⟩) hgb).trans x0
                      have v1 := (HWm.out.fr.cell (p := ⟨gb, m * 3 + 1, none⟩) hgb).trans x1'
                      have v2 := (HWm.out.fr.cell (p := ⟨gb, m * 3 + 2, none⟩) hgb).trans x2'
                      have hgbr := Nat.lt_of_lt_of_le hgb HWm.out.fr.size
                      have z0 := (HWm.out.fr.cell (p := ⟨sb, so + bl2 * 2, none⟩) (Nat.lt_of_lt_of_le hsb HBs.out.size)).trans ((HBs.out.cell (p := ⟨sb, so + bl2 * 2, none⟩) hsb).trans s0)
                      have z1 := (HWm.out.fr.cell (p := ⟨sb, so + bl2 * 2 + 1, none⟩) (Nat.lt_of_lt_of_le hsb HBs.out.size)).trans ((HBs.out.cell (p := ⟨sb, so + bl2 * 2 + 1, none⟩) hsb).trans s1)
                      have hsbr := Nat.lt_of_lt_of_le (Nat.lt_of_lt_of_le hsb HBs.out.size) HWm.out.fr.size
                      have r0 := (HWm.out.fr.cell (p := ⟨w.heap.size + 1, 0, none⟩) k1).trans k0
                      have hk1r := Nat.lt_of_lt_of_le k1 HWm.out.fr.size
                      have HF6 : Hid (FW w2 n (.slice (some ⟨gs, 0, none⟩) n rc) (zeroTo s L i) ((wr.alloc (.cells #[.int .i64 (bl2 : Int), .slice wa2 ws2.length wc2, .int .i64 T2] 62)).alloc (.cells #[.int .i64 y1, .int .i64 y2] 46))) := (HWm.out.alloc _).alloc _
                      have HB6 : Hid (Below w5.heap.size w5 ((wr.alloc (.cells #[.int .i64 (bl2 : Int), .slice wa2 ws2.length wc2, .int .i64 T2] 62)).alloc (.cells #[.int .i64 y1, .int .i64 y2] 46))) := below_al (below_al HBm.out _) _
                      clear x0 x1' x2' s0 s1
                      by_cases b1 : y1 ≤ x1
                      · have f1 : decide (y1 ≤ x1) = true := decide_eq_true b1
                        by_cases b2 : x1 < y2
                        · have f2 : decide (x1 < y2) = true := decide_eq_true b2
                          have HBn : Hid (BJ (m + 1) = BJ m + 1) := by show _ = _; rw [HHB.out, f1, f2]; rfl
                          go_wp2
                          go_roundw
                          case rel => exact ⟨m + 1, by go_num, by rw [HBn.out]; go_num, by omega, HF6.out, HB6.out⟩
                          case measure => simp [intOf]; omega
                        · have f2 : decide (x1 < y2) = false := decide_eq_false b2
                          have HBn : Hid (BJ (m + 1) = BJ m) := by show _ = _; rw [HHB.out, f1, f2]; rfl
                          go_wp2
                          go_roundw
                          case rel => exact ⟨m + 1, by go_num, by rw [HBn.out], by omega, HF6.out, HB6.out⟩
                          case measure => simp [intOf]; omega
                      · have f1 : decide (y1 ≤ x1) = false := decide_eq_false b1
                        have HBn : Hid (BJ (m + 1) = BJ m) := by show _ = _; rw [HHB.out, f1]; rfl
                        go_wp2
                        go_roundw
                        case rel => exact ⟨m + 1, by go_num, by rw [HBn.out], by omega, HF6.out, HB6.out⟩
                        case measure => simp [intOf]; omega
                    · have dm2 : decide ((m : Int) < (L.length : Int)) = false := decide_eq_false (by omega)
                      have hm1 : ¬ (m : Int) < (L.length : Int) := by omega
                      have hmL2 : m = L.length := by omega
                      subst hmL2
                      have p1 := (HWm.out.fr.cell (p := ⟨g, 1, none⟩) gl).trans q1
                      by_cases hd : mk < (BJ L.length : Int)
                      · have dd : decide (mk < (BJ L.length : Int)) = true := decide_eq_true hd
                        have HN : Hid (V = false) := hNJ.out (by rw [HJ1.out, decide_eq_false (show ¬ ((BJ L.length : Int) ≤ mk) by omega)])
                        go_wp2
                        go_ret
                        exact ⟨by rw [HN.out]; rfl, below2 HBs.out HWm.out.fr⟩
                      · have dd : decide (mk < (BJ L.length : Int)) = false := decide_eq_false hd
                        have HJOt : Hid (JO bl = true) := by show JO bl = true; rw [HJ1.out, decide_eq_true (show (BJ L.length : Int) ≤ mk by omega)]
                        have HY := Lib.hid (HNx.out HSPt.out HJOt.out)
                        have HZl : Hid ((zeroTo s L i).length = n) := by show _ = _; rw [zeroTo_len]; exact HSL.out
                        have HF7 := Lib.hid (HWm.out.zero HZl.out hbn)
                        obtain ⟨o0, o1, o2, o3, o4⟩ := HWm.out.cells HZl.out hbn
                        go_wp2
                        go_roundw
                        case rel => exact ⟨i + 1, by go_num, by omega, HY.out, by rw [HZ.out]; exact HF7.out⟩
                        case measure => simp [intOf]; omega
              · have d3 : (x2 - T != x1) = true := bne_iff_ne.2 g3
                have HN : Hid (V = false) := hNS.out (by rw [HA0.out, decide_eq_false g3, Bool.and_false, Bool.and_false])
                go_wp2
                go_ret
                exact ⟨by rw [HN.out]; rfl, below2 HBs.out HF4.out.fr⟩
        · have di : decide ((i : Int) < (L.length : Int)) = false := decide_eq_false (by omega)
          have hi1 : ¬ (i : Int) < (L.length : Int) := by omega
          have hiL : i = L.length := by omega
          subst hiL
          have HVe : Hid (V = !((zeroTo s L L.length).any notZero)) := HENDj.out fun x hx => HF.out x hx
          have HZl : Hid ((zeroTo s L L.length).length = n) := by show _ = _; rw [zeroTo_len]; exact HSL.out
          obtain ⟨za, zc, hze, HZs⟩ := Rec.stks_of_own (l := zeroTo s L L.length) (by rw [HZl.out]; exact HW.out.own)
          have CF2 := containsF2_any za zc (zeroTo s L L.length) (by rw [HZl.out]; omega) wo HZs
          rw [HZl.out] at CF2
          injection hze with h1 h2 h3
          clear h2
          subst h1
          subst h3
          replace CF2 := Lib.hid CF2
          generalize (zeroTo s L L.length).any notZero = AZ at *
          go_wp2_with (go_at_call 40; (with_reducible refine CF2.out.mono ?_); rintro e w5 ⟨rfl, hb5⟩; have HF5 := Lib.hid (HW.out.below hb5))
          go_ret
          exact ⟨by rw [HVe.out]; rfl, below2 HBs.out HF5.out.fr⟩
    · have HVf : Hid (fitsV c bay l level s = false) := by show _ = false; rw [HV.out, decide_eq_false hsl]; simp
      rw [HVf.out]
      have ds : ((s.length : Int) != (c.blues.length : Int)) = true := bne_iff_ne.2 (by omega)
      generalize c.bays.getD (bay.toNat - 1) noy = Y at *
      clear HV hc ha hst hm
      unfold CatIn.val at *
      go_enter Try.func15, Try.ntmps15
      go_upto_region 2 with (go_at_call 19; (with_reducible refine (CM.out _ hBL.out).mono ?_); rintro e w1 ⟨g, L, v, rfl, HS1, HB1⟩; have HB2 := Lib.hid (below2 hBL.out HB1.out); have l0 := (HB1.out.cell (p := ⟨w.heap.size + 1, 0, none⟩) HL1.out).trans HL0.out; have l1 := Nat.lt_of_lt_of_le HL1.out HB1.out.size; have g4 : w1.cell? ⟨g, 4, none⟩ = some (.int .i64 (c.blues.length : Int)) := HS1.out.row.cell (by decide))
      go_quiet (fail)
      go_wp2
      go_ret
      exact ⟨rfl, below_dN HB2.out _⟩
  · have CM : Hid (∀ W, Below w.heap.size w W → Calls Try.prog 19 #[.agg c.val, .int .i64 bay, .slice a l.length cap, .int .i64 level] W fun e w' => e = .returned (.tuple #[.pointer none, .int .i64 (mayV c bay l level)]) ∧ Below W.heap.size W w') := fun W h => made_no c W (hc.below h) bay a cap l hl (ha.below h) level hm
    have HVf : Hid (fitsV c bay l level s = false) := by show _ = false; rw [HV.out, decide_eq_false hm]; rfl
    rw [HVf.out]
    have dm : (mayV c bay l level != 0) = true := bne_iff_ne.2 hm
    generalize mayV c bay l level = M at *
    clear hc ha HV hst
    unfold CatIn.val at *
    go_enter Try.func15, Try.ntmps15
    go_upto_region 2 with (go_at_call 19; (with_reducible refine (CM.out _ hBL.out).mono ?_); rintro e w1 ⟨rfl, hb1⟩)
    go_quiet (fail)
    go_wp2
    go_ret
    exact ⟨rfl, below_dN (below2 hBL.out hb1) _⟩
end Quo
end Go.Proofs.Ytiabnjmblcogmaa
end
