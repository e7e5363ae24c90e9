/- Texts put together: QuoPc. -/
import Derived.Test.YtiabnjmblcogmaaM26
set_option linter.all false
section
namespace Go.Proofs.Ytiabnjmblcogmaa
open Go.RowKit
namespace Quo
open Cat (CatIn BayIn chkC nob noy makerV Cam Box box_new box_b box_next box_flat fst)
open Rec (BlueIn Stk Stks stkVals)
open Pen (below2 below_al below_dN)
def lenOf : Value → Nat
  | .slice _ n _ => n
  | _ => 0
theorem jw_of {c : CatIn} {l : List Int} {level : Int} {w : World} {base : Nat} {L : List JobIn} (h : JobsOk c l level c.blues.length w base L) (hn : ∀ k, k < c.blues.length → (c.blues.getD k nob).needs.length ≤ 12) : JW c.blues.length L w := fun i hi => by
  have hm := getD_mem' hi noj
  have e := h.waits _ hm
  refine ⟨?_, fun x hx => ?_, ints_of_waits (h.lies _ hm)⟩
  · rw [e, ← waitsTo_all]
    have h2 := waitsTo_len c l (L.getD i noj).blue (c.blues.getD (L.getD i noj).blue nob).needs.length
    have h3 := hn (L.getD i noj).blue (h.blue_mem hi).1
    omega
  · rw [e] at hx
    exact mem_waitsL hx
theorem jw_sub {n : Nat} {L T : List JobIn} {w : World} (h : JW n L w) (hs : ∀ j, j ∈ T → j ∈ L) : JW n T w := fun i hi => by
  obtain ⟨k, hk, e⟩ := List.getElem_of_mem (hs _ (getD_mem' hi noj))
  have := h k hk
  rw [List.getD_eq_getElem?_getD, List.getElem?_eq_getElem hk] at this
  rw [← e]
  exact this
theorem PX.over {w1 W W' : World} {go gx gb gv gn B0 n : Nat} {o : List Stk} {now : Int} {b b2 : List Bool} {T G G' : List JobIn} {vT : Value} {dg dc K : Nat} (h : PX w1 go gx gb gv gn B0 n o now b T G vT (.slice (some ⟨dg, 0, none⟩) G.length dc) W) (hl : PLay w1 go gx gb gv gn B0) (hg : G2 dg gb W W') (hO : OV gx gn gv go gb go n o now b2 W') (ho : W'.ownsRow B0 62 3 (.slice (some ⟨dg, 0, none⟩) G'.length K) G'.length (jobVals G')) : PX w1 go gx gb gv gn B0 n o now b2 T G' vT (.slice (some ⟨dg, 0, none⟩) G'.length K) W' := by
  obtain ⟨⟨a1, a2, a3, a4, a5⟩, ⟨b1, b2', b3, b4, b5⟩, c1, c2, c3, c4, c5, c6⟩ := hl
  have hd0 := (h.dg.lt dg rfl).1
  refine ⟨⟨hg.os.trans h.fr.os, hg.tape.trans h.fr.tape, hg.output.trans h.fr.output, Nat.le_trans h.fr.size hg.size, fun k hk => (hg.block k (Nat.lt_of_lt_of_le hk h.fr.size) (by omega) (by omega)).trans (h.fr.block k hk)⟩, hO, ?_, ho, fun k hk => ⟨(h.nT k hk).1, fun e => (h.nT k hk).2 (by rw [← e]; rfl)⟩, fun k hk => by cases hk; exact h.nD dg rfl, ?_⟩
  rotate_left
  · have := h.fz
    unfold World.frozen? at this ⊢
    rw [hg.block gn h.ov.l1 (fun e => h.nD dg rfl e.symm) (by omega)]
    exact this
  have hlt := h.td.lt
  refine ⟨h.td.1, ?_⟩
  rcases h.td.2 with h0 | ⟨g, cap, cur, rfl, h1, h2, h3⟩
  · exact .inl h0
  · refine .inr ⟨g, cap, cur, rfl, h1, (hg.block g (Array.getElem?_eq_some_iff.1 h2).1 (fun e => ?_) (by omega)).trans h2, h3⟩
    have := (h.nT g rfl).2
    apply this
    rw [e]; rfl
theorem deleteJ2_any (base g m cap n : Nat) (hm : m ≤ 4096) (hm0 : 0 < m) (L : List JobIn) (w : World) (hJ : JR base g m cap n L w) (k : Nat) (hk : k < m) :
    Calls Try.prog 25 #[.slice (some ⟨g, 0, none⟩) m cap, .int .i64 (k : Int), .int .i64 ((k : Int) + 1)] w fun e w' => e = .returned (.slice (some ⟨g, 0, none⟩) (L.eraseIdx k).length cap) ∧ Hid (w'.ownsRow base 62 3 (.slice (some ⟨g, 0, none⟩) (L.eraseIdx k).length cap) (L.eraseIdx k).length (jobVals (L.eraseIdx k))) ∧ Hid (w.grownBy w' (some g)) := by
  obtain ⟨M, rfl⟩ : ∃ M, m = M + 1 := ⟨m - 1, by omega⟩
  have e : (L.eraseIdx k).length = M := by rw [List.length_eraseIdx, hJ.len, if_pos hk]; rfl
  rw [e]
  exact deleteJ_any base g M cap n (by omega) L w hJ k (by omega)
theorem span_beg {w : World} {base go n : Nat} {o : List Stk} (h : w.ownsRow base 46 2 (.slice (some ⟨go, 0, none⟩) n n) n (stkVals o)) (hl : o.length = n) {k : Nat} (hk : k < n) : w.cell? ⟨go, k * 2, none⟩ = some (.int .i64 (o.getD k (0, 0)).1) := by
  have hg := flat_get3 (fun x : Stk => [Value.int .i64 x.1, Value.int .i64 x.2]) 2 (fun _ => rfl) o (0, 0) k 0 (by omega) (by decide)
  rw [h.cellAt (k * 2) (by omega)]
  exact hg
theorem pj_of {c : CatIn} {bay : Int} {l : List Int} {level : Int} {w : World} {base : Nat} {L : List JobIn} (h : JobsOk c l level c.blues.length w base L) (hl : ∀ k, k < l.length → 0 ≤ l.getD k 0) : PJ (pcOf c bay l level) L :=
  ⟨h.blues, fun j hj => ⟨fun x hx => mem_waitsL (by rw [← h.waits j hj]; exact hx), fun x _ => by rw [h.waits j hj]; exact waits_mem hl⟩⟩
theorem lay_new (w1 w5 : World) (h : w1.heap.size + 4 ≤ w5.heap.size) : PLay w1 w1.heap.size (w1.heap.size + 1) (w1.heap.size + 1 + 1) (w1.heap.size + 1 + 1 + 1) w5.heap.size (w1.heap.size + 1 + 1 + 1 + 1) := ⟨⟨by omega, by omega, by omega, by omega, by omega⟩, ⟨by omega, by omega, by omega, by omega, by omega⟩, by omega, by omega, by omega, by omega, by omega, by omega⟩
theorem ov_new (w1 : World) (n : Nat) (hn : n ≤ 4096) {w5 : World} (hb : Below ((((w1.alloc (.cells (madeCells #[.int .i64 0, .int .i64 0] (n * 2)) 46)).alloc (.cells #[.slice (some ⟨w1.heap.size, 0, none⟩) n n] 32)).alloc (.cells (madeCells #[.bool false] n) 4)).alloc (.cells #[.slice (some ⟨w1.heap.size + 1 + 1, 0, none⟩) n n] 59)).heap.size ((((w1.alloc (.cells (madeCells #[.int .i64 0, .int .i64 0] (n * 2)) 46)).alloc (.cells #[.slice (some ⟨w1.heap.size, 0, none⟩) n n] 32)).alloc (.cells (madeCells #[.bool false] n) 4)).alloc (.cells #[.slice (some ⟨w1.heap.size + 1 + 1, 0, none⟩) n n] 59)) w5) : OV (w1.heap.size + 1) w5.heap.size (w1.heap.size + 1 + 1 + 1) w1.heap.size (w1.heap.size + 1 + 1) w1.heap.size n (ps0 n).out 0 (List.replicate n false) (w5.alloc (.cells #[.int .i64 0] 3)) := by
  have s4 : ((((w1.alloc (.cells (madeCells #[.int .i64 0, .int .i64 0] (n * 2)) 46)).alloc (.cells #[.slice (some ⟨w1.heap.size, 0, none⟩) n n] 32)).alloc (.cells (madeCells #[.bool false] n) 4)).alloc (.cells #[.slice (some ⟨w1.heap.size + 1 + 1, 0, none⟩) n n] 59)).heap.size = w1.heap.size + 4 := by simp
  have hs := hb.size
  have hB := below_al hb (.cells #[.int .i64 0] 3)
  have hB2 : Below ((((w1.alloc (.cells (madeCells #[.int .i64 0, .int .i64 0] (n * 2)) 46)).alloc (.cells #[.slice (some ⟨w1.heap.size, 0, none⟩) n n] 32)).alloc (.cells (madeCells #[.bool false] n) 4)).alloc (.cells #[.slice (some ⟨w1.heap.size + 1 + 1, 0, none⟩) n n] 59)).heap.size ((((w1.alloc (.cells (madeCells #[.int .i64 0, .int .i64 0] (n * 2)) 46)).alloc (.cells #[.slice (some ⟨w1.heap.size, 0, none⟩) n n] 32)).alloc (.cells (madeCells #[.bool false] n) 4)).alloc (.cells #[.slice (some ⟨w1.heap.size + 1 + 1, 0, none⟩) n n] 59)) (w5.alloc (.cells #[.int .i64 0] 3)) := hB
  have x0 : ((((w1.alloc (.cells (madeCells #[.int .i64 0, .int .i64 0] (n * 2)) 46)).alloc (.cells #[.slice (some ⟨w1.heap.size, 0, none⟩) n n] 32)).alloc (.cells (madeCells #[.bool false] n) 4)).alloc (.cells #[.slice (some ⟨w1.heap.size + 1 + 1, 0, none⟩) n n] 59)).cell? ⟨w1.heap.size + 1, 0, none⟩ = some (.slice (some ⟨w1.heap.size, 0, none⟩) n n) := by go_simp
  have x2 : ((((w1.alloc (.cells (madeCells #[.int .i64 0, .int .i64 0] (n * 2)) 46)).alloc (.cells #[.slice (some ⟨w1.heap.size, 0, none⟩) n n] 32)).alloc (.cells (madeCells #[.bool false] n) 4)).alloc (.cells #[.slice (some ⟨w1.heap.size + 1 + 1, 0, none⟩) n n] 59)).cell? ⟨w1.heap.size + 1 + 1 + 1, 0, none⟩ = some (.slice (some ⟨w1.heap.size + 1 + 1, 0, none⟩) n n) := by go_simp
  have ho : ((((w1.alloc (.cells (madeCells #[.int .i64 0, .int .i64 0] (n * 2)) 46)).alloc (.cells #[.slice (some ⟨w1.heap.size, 0, none⟩) n n] 32)).alloc (.cells (madeCells #[.bool false] n) 4)).alloc (.cells #[.slice (some ⟨w1.heap.size + 1 + 1, 0, none⟩) n n] 59)).ownsRow w1.heap.size 46 2 (.slice (some ⟨w1.heap.size, 0, none⟩) n n) n (stkVals (List.replicate n (0, 0))) := by
    refine World.ownsRow.alloc (World.ownsRow.alloc (World.ownsRow.alloc ?_ _) _) _
    rw [← made_zero]
    exact World.ownsRow_lit w1 _ n (Nat.le_refl _) (by unfold maxLen; omega) (size_madeCells _ _)
  have hr : ((((w1.alloc (.cells (madeCells #[.int .i64 0, .int .i64 0] (n * 2)) 46)).alloc (.cells #[.slice (some ⟨w1.heap.size, 0, none⟩) n n] 32)).alloc (.cells (madeCells #[.bool false] n) 4)).alloc (.cells #[.slice (some ⟨w1.heap.size + 1 + 1, 0, none⟩) n n] 59)).rowIs (w1.heap.size + 1 + 1) 4 n (fB (List.replicate n false)) := by
    have h2 := World.rowIs_made ((w1.alloc (.cells (madeCells #[.int .i64 0, .int .i64 0] (n * 2)) 46)).alloc (.cells #[.slice (some ⟨w1.heap.size, 0, none⟩) n n] 32)) (.bool false) n 4
    rw [show ((w1.alloc (.cells (madeCells #[.int .i64 0, .int .i64 0] (n * 2)) 46)).alloc (.cells #[.slice (some ⟨w1.heap.size, 0, none⟩) n n] 32)).heap.size = w1.heap.size + 1 + 1 by simp] at h2
    exact (h2.alloc _).congr fun i hi => by unfold fB; rw [getD_rep]
  refine ⟨(hB2.cell (p := ⟨w1.heap.size + 1, 0, none⟩) (show w1.heap.size + 1 < _ by rw [s4]; omega)).trans x0, ?_, (hB2.cell (p := ⟨w1.heap.size + 1 + 1 + 1, 0, none⟩) (show w1.heap.size + 1 + 1 + 1 < _ by rw [s4]; omega)).trans x2, Own.own_below ho hB2, hr.of_block (hB2.block _ (by rw [s4]; omega)), by simp; omega, by simp, by simp; omega, by omega, by omega, by omega, by omega, by simp [ps0], by simp⟩
  go_simp
set_option maxRecDepth 100000 in
set_option maxHeartbeats 16000000 in
theorem plan_any (c : CatIn) (w : World) (hc : Cam w c) (bay : Int) (a : Option Addr) (cap : Nat) (l : List Int) (hl : l.length ≤ 20) (ha : In.Ints .i64 w a l) (level : Int) :
    Calls Try.prog 8 #[.agg c.val, .int .i64 bay, .slice a l.length cap, .int .i64 level] w (PlanRes (planV c bay l level) w) := by
  obtain ⟨iJ, hiJ, hzJ, hzK, hzL⟩ := info_of infoJ
  have HB0 := Lib.hid (box_new w c 27)
  by_cases hm : mayV c bay l level = 0
  · obtain ⟨hK, hb1, hb2, hr, -, -⟩ := mayV_ok hm
    have hlen := runsOk_len hr
    have hnb := (good_of hK).2.1
    have hmk := (bay_of hK (i := bay.toNat - 1) (by omega)).1
    have CM : Hid (∀ W, Below w.heap.size w W → Calls Try.prog 19 #[.agg c.val, .int .i64 bay, .slice a l.length cap, .int .i64 level] W (Made c l level (c.bays.getD (bay.toNat - 1) noy) c.blues.length W)) := fun W h => made_yes c W (hc.below h) bay a cap l hl (ha.below h) level hm
    obtain ⟨p, hp⟩ : ∃ p, Hid (pcOf c bay l level = p) := ⟨_, rfl⟩
    have HPn : Hid (p.n = c.blues.length) := by rw [← hp.out]; rfl
    have HPs : Hid (p.sl = (c.bays.getD (bay.toNat - 1) noy).make) := by rw [← hp.out]; rfl
    have HPt : Hid (PT p) := by rw [← hp.out]; exact pcOf_pos hm
    have HPb : Hid (∀ k, 0 ≤ p.tm k ∧ p.tm k ≤ 109951162777600099) := by rw [← hp.out]; exact pcOf_time c bay l level
    have HPJ : Hid (∀ W base L, JobsOk c l level c.blues.length W base L → PJ p L ∧ JW c.blues.length L W ∧ (∀ j, j ∈ L → j.time = p.tm j.blue) ∧ L.length = jobsN p) := fun W base L h => by
      have h1 := pj_of (bay := bay) h fun k hk => (run_of hr k hk).1
      rw [hp.out] at h1
      refine ⟨h1, jw_of h fun k hk => hc.small.2.2 k hk, fun j hj => ?_, ?_⟩
      · rw [h.time j hj, ← hp.out]; rfl
      · have := congrArg List.length h1.blues
        rw [List.length_map] at this
        exact this
    have HV : Hid (planV c bay l level = if 0 < jobsN p ∧ p.sl = 0 then ([], 10) else finV (planTo p (2 * p.n + 1) (ps0 p.n))) := by
      show _ = _
      unfold planV
      rw [if_neg (by simpa using hm), ← hp.out]
      rfl
    generalize planV c bay l level = V at *
    generalize c.bays.getD (bay.toNat - 1) noy = Y at *
    obtain ⟨n, hn⟩ : ∃ n, Hid (c.blues.length = n) := ⟨_, rfl⟩
    rw [hn.out] at HPn CM HPJ hnb
    obtain ⟨pl, mk, lb, rt⟩ := Y
    dsimp only at HPs hmk
    clear hc ha hm hr hK hb1 hb2 hlen
    unfold CatIn.val at *
    have mkS := run_mkS n (by omega)
    have mkB := run_mkB n (by omega)
    go_enter Try.func8, Try.ntmps8
    go_upto_region 4 with (go_at_call 19; (with_reducible refine (CM.out _ (box_b HB0.out)).mono ?_); rintro e w1 ⟨g, L, v, rfl, HS1, HB1⟩; have HBw := Lib.hid (below2 (box_b HB0.out) HB1.out); obtain ⟨hPJ, hJW, hTM, hLn⟩ := HPJ.out _ _ _ HS1.out.jobs; have HPJ := Lib.hid hPJ; have HJW := Lib.hid hJW; have HTM := Lib.hid hTM; obtain ⟨ja, jc, hje⟩ := own_slice HS1.out.own; subst hje; have g5 : w1.cell? ⟨g, 5, none⟩ = some (.slice ja L.length jc) := HS1.out.row.cell (by decide); have g1 : w1.cell? ⟨g, 1, none⟩ = some (.int .i64 mk) := HS1.out.row.cell (by decide); have g4 : w1.cell? ⟨g, 4, none⟩ = some (.int .i64 (n : Int)) := HS1.out.row.cell (by decide); have gl := HS1.out.lt)
    have hLn20 : L.length ≤ 20 := by have := jobsN_le p; have := HPn.out; omega
    by_cases hj : 0 < jobsN p ∧ mk = 0
    · obtain ⟨hj1, rfl⟩ := hj
      have hL1 : (0 : Int) < (L.length : Int) := by omega
      have dL : decide ((0 : Int) < (L.length : Int)) = true := decide_eq_true hL1
      have HVe : Hid (V = ([], 10)) := by show _ = _; rw [HV.out, if_pos ⟨hj1, HPs.out⟩]
      clear hLn
      go_wp2
      go_ret2
      rw [HVe.out]
      exact plan_none 10 HBw.out
    · have HVe : Hid (V = finV (planTo p (2 * n + 1) (ps0 n))) := by show _ = _; rw [HV.out, if_neg (by rw [HPs.out]; exact hj), HPn.out]
      obtain ⟨R, hR⟩ : ∃ R, Hid (planTo p (2 * n + 1) (ps0 n) = R) := ⟨_, rfl⟩
      rw [hR.out] at HVe
      have HM0 : Hid (meas p (ps0 n) < 2 * n + 1) := by
        have h1 := meas_ps0 p
        have h2 := jobsN_le p
        rw [HPn.out] at h1 h2
        show _ < _
        omega
      have HW0 : Hid (PW p 109951162777600099 (ps0 n)) := by have := PW.start p 109951162777600099; rw [HPn.out] at this; exact this
      have HA0 : Hid (PA p L (ps0 n) (List.replicate n false) L []) := by have := PA.start (p := p) (L := L); rw [HPn.out] at this; exact this
      have HMK : Hid (L ≠ [] → mk ≠ 0) := fun h e => hj ⟨by rw [← hLn]; exact List.length_pos_iff.2 h, e⟩
      have HLn := Lib.hid hLn
      clear hj hLn
      by_cases hL0 : 0 < L.length
      · have hL1 : (0 : Int) < (L.length : Int) := by omega
        have dL : decide ((0 : Int) < (L.length : Int)) = true := decide_eq_true hL1
        have hLne : L ≠ [] := List.length_pos_iff.1 hL0
        have hmk0 := HMK.out hLne
        have dmk : (mk == 0) = false := beq_eq_false_iff_ne.2 hmk0
        have HF4 : Hid (Below w1.heap.size w1 ((((w1.alloc (.cells (madeCells #[.int .i64 0, .int .i64 0] (n * 2)) 46)).alloc (.cells #[.slice (some ⟨w1.heap.size, 0, none⟩) n n] 32)).alloc (.cells (madeCells #[.bool false] n) 4)).alloc (.cells #[.slice (some ⟨w1.heap.size + 1 + 1, 0, none⟩) n n] 59))) := below_al (below_al (below_al (below_al (Below.refl _ _) _) _) _) _
        have CL := Lib.hid (cloneJ_any (g + 1) L (.slice ja L.length jc) (by omega) ((((w1.alloc (.cells (madeCells #[.int .i64 0, .int .i64 0] (n * 2)) 46)).alloc (.cells #[.slice (some ⟨w1.heap.size, 0, none⟩) n n] 32)).alloc (.cells (madeCells #[.bool false] n) 4)).alloc (.cells #[.slice (some ⟨w1.heap.size + 1 + 1, 0, none⟩) n n] 59)) (Own.own_below HS1.out.own HF4.out))
        go_upto_region 9 with (fail)
        have g54 := (HF4.out.cell (p := ⟨g, 5, none⟩) gl).trans g5
        have gl4 := Nat.lt_of_lt_of_le gl HF4.out.size
        have s4 : ((((w1.alloc (.cells (madeCells #[.int .i64 0, .int .i64 0] (n * 2)) 46)).alloc (.cells #[.slice (some ⟨w1.heap.size, 0, none⟩) n n] 32)).alloc (.cells (madeCells #[.bool false] n) 4)).alloc (.cells #[.slice (some ⟨w1.heap.size + 1 + 1, 0, none⟩) n n] 59)).heap.size = w1.heap.size + 4 := by simp
        have HOVN : Hid (∀ w5 : World, Below ((((w1.alloc (.cells (madeCells #[.int .i64 0, .int .i64 0] (n * 2)) 46)).alloc (.cells #[.slice (some ⟨w1.heap.size, 0, none⟩) n n] 32)).alloc (.cells (madeCells #[.bool false] n) 4)).alloc (.cells #[.slice (some ⟨w1.heap.size + 1 + 1, 0, none⟩) n n] 59)).heap.size ((((w1.alloc (.cells (madeCells #[.int .i64 0, .int .i64 0] (n * 2)) 46)).alloc (.cells #[.slice (some ⟨w1.heap.size, 0, none⟩) n n] 32)).alloc (.cells (madeCells #[.bool false] n) 4)).alloc (.cells #[.slice (some ⟨w1.heap.size + 1 + 1, 0, none⟩) n n] 59)) w5 → OV (w1.heap.size + 1) w5.heap.size (w1.heap.size + 1 + 1 + 1) w1.heap.size (w1.heap.size + 1 + 1) w1.heap.size n (ps0 n).out 0 (List.replicate n false) (w5.alloc (.cells #[.int .i64 0] 3))) := fun w5 h => ov_new w1 n (by omega) h
        generalize ((((w1.alloc (.cells (madeCells #[.int .i64 0, .int .i64 0] (n * 2)) 46)).alloc (.cells #[.slice (some ⟨w1.heap.size, 0, none⟩) n n] 32)).alloc (.cells (madeCells #[.bool false] n) 4)).alloc (.cells #[.slice (some ⟨w1.heap.size + 1 + 1, 0, none⟩) n n] 59)) = W4 at *
        go_upto_region 10 with (go_at_call 20; (with_reducible refine CL.out.mono ?_); rintro e w5 ⟨vT, rfl, HO5, HB5⟩)
        obtain ⟨ta, tc, hvT⟩ := own_slice HO5.out
        subst hvT
        obtain ⟨tg, hta, htg0, htg1⟩ := own_some HO5.out hL0
        subst hta
        have hs5 := HB5.out.size
        rw [s4] at hs5 htg0
        have HLy : Hid (PLay w1 w1.heap.size (w1.heap.size + 1) (w1.heap.size + 1 + 1) (w1.heap.size + 1 + 1 + 1) w5.heap.size (w1.heap.size + 1 + 1 + 1 + 1)) := lay_new w1 w5 hs5
        have HOV0 : Hid (OV (w1.heap.size + 1) w5.heap.size (w1.heap.size + 1 + 1 + 1) w1.heap.size (w1.heap.size + 1 + 1) w1.heap.size n (ps0 n).out 0 (List.replicate n false) (w5.alloc (.cells #[.int .i64 0] 3))) := HOVN.out w5 HB5.out
        have HPX0 : Hid (PX w1 w1.heap.size (w1.heap.size + 1) (w1.heap.size + 1 + 1) (w1.heap.size + 1 + 1 + 1) w5.heap.size (w1.heap.size + 1 + 1 + 1 + 1) n (ps0 n).out 0 (List.replicate n false) L [] (.slice (some ⟨tg, 0, none⟩) L.length tc) (.slice none 0 0) (w5.alloc (.cells #[.int .i64 0] 3))) := by
          refine ⟨below_al (HF4.out.trans (HB5.out.mono HF4.out.size)) _, HOV0.out, (own_le HO5.out (by rw [s4]; exact Nat.le_refl _)).alloc _, World.ownsRow_nil _ _ _ _, fun k hk => ?_, fun k hk => (by cases hk), by go_simp⟩
          cases hk
          exact ⟨by show tg ≠ _; omega, by simp [Value.ownBlock]⟩
        clear HOV0 CL HO5 mkS mkB HOVN
        have HFs : Hid (Below w1.heap.size w1 (w5.alloc (.cells #[.int .i64 0] 3))) := HPX0.out.fr
        go_wp2
        have hgnl := HLy.out.b.2.2.2.2
        generalize w1.heap.size + 1 + 1 + 1 + 1 = B0 at *
        generalize w1.heap.size + 1 + 1 + 1 = gv at *
        generalize w1.heap.size + 1 + 1 = gb at *
        generalize w1.heap.size + 1 = gx at *
        generalize w5.alloc (.cells #[.int .i64 0] 3) = W6 at *
        generalize w5.heap.size = gn at *
        go_loopg [14, 15] (2 * n + 1) (fun gk v14 v15 wr => ∃ (S : PS) (b : List Bool) (T G : List JobIn) (f : Nat), v15 = .slice (some ⟨tg, 0, none⟩) T.length tc ∧ Hid (planTo p f S = R ∧ meas p S < f ∧ meas p S < gk) ∧ Hid (PW p 109951162777600099 S) ∧ Hid (PA p L S b T G) ∧ Hid (PX w1 w1.heap.size gx gb gv gn B0 n S.out S.now b T G (.slice (some ⟨tg, 0, none⟩) T.length tc) v14 wr))
        case atStart => exact ⟨ps0 n, List.replicate n false, L, [], 2 * n + 1, rfl, ⟨hR.out, HM0.out, HM0.out⟩, HW0.out, HA0.out, HPX0.out⟩
        case round =>
          clear HPX0 HFs
          obtain ⟨S, b, T, G, f, rfl, HM, HW, HA, HX⟩ := hrel
          obtain ⟨Gn, hGn⟩ : ∃ Gn, Hid (gk = Gn + 1) := ⟨gk - 1, by have := HM.out.2.2; show _ = _; omega⟩
          obtain ⟨da, dc, hvD⟩ := own_slice HX.out.dg
          subst hvD
          have hT20 : T.length ≤ 20 := by have := List.length_filter_le (fun j => !isB S j.blue) L; rw [← HA.out.td] at this; omega
          have hG20 : G.length ≤ 20 := by
            have h1 := HA.out.doing
            have h2 := List.length_filter_le (isD S) (List.range p.n)
            rw [List.length_range, HPn.out] at h2
            have h3 : doing p S = ((List.range p.n).filter (isD S)).length := rfl
            rw [HPn.out] at h3
            omega
          by_cases hz : T.length + G.length = 0
          · have hzi : (T.length : Int) + (G.length : Int) = 0 := by omega
            have hleft : left p S = 0 := by rw [HA.out.left HPJ.out]; omega
            have HRs : Hid (R = some S.out) := by
              obtain ⟨f', hf'⟩ : ∃ f', f = f' + 1 := ⟨f - 1, by have := HM.out.2.1; omega⟩
              have h1 := HM.out.1
              rw [hf'] at h1
              exact plan_out h1 hleft
            have x0 := HX.out.ov.c0
            have xl := HX.out.ov.l0
            have dz : decide (0 < (T.length : Int) + (G.length : Int)) = false := decide_eq_false (by omega)
            have dz2 : ¬ 0 < T.length + G.length := by omega
            clear hz hleft
            go_wp2
            go_ret2
            rw [HVe.out, HRs.out]
            have hol := HX.out.ov.ol
            refine ⟨some ⟨w1.heap.size, 0, none⟩, n, ?_, ?_, below2 HBw.out HX.out.fr⟩
            · show _ = Ending.returned (.tuple #[.slice _ S.out.length n, .int .i64 0])
              rw [hol]
              rfl
            · obtain ⟨a2, cap2, e2, h2⟩ := Rec.stks_of_own (l := S.out) (by rw [hol]; exact HX.out.ov.own)
              injection e2 with h3 h4 h5
              rw [h3]
              exact h2
          · have dz : decide (0 < (T.length : Int) + (G.length : Int)) = true := decide_eq_true (by omega)
            have dz2 : 0 < T.length + G.length := by omega
            have HZ := Lib.hid dz2
            clear hz
            go_wp2
            go_loopw [14, 15, 17] (fun v14 v15 v17 wr => ∃ (S : PS) (b : List Bool) (T G : List JobIn) (f : Nat), v15 = .slice (some ⟨tg, 0, none⟩) T.length tc ∧ Hid (planTo p f S = R ∧ meas p S < f ∧ meas p S < gk ∧ 0 < T.length + G.length) ∧ Hid (PW p 109951162777600099 S) ∧ Hid (PA p L S b T G) ∧ Hid (PX w1 w1.heap.size gx gb gv gn B0 n S.out S.now b T G (.slice (some ⟨tg, 0, none⟩) T.length tc) v14 wr)) (fun _ v15 _ _ => lenOf v15)
            case atStart => exact ⟨S, b, T, G, f, rfl, ⟨HM.out.1, HM.out.2.1, HM.out.2.2, HZ.out⟩, HW.out, HA.out, HX.out⟩
            case round =>
              clear HX HA HW HM hT20 hG20 HZ
              obtain ⟨S, b, T, G, f, rfl, HM, HW, HA, HX⟩ := hrel
              obtain ⟨da, dc, hvD⟩ := own_slice HX.out.dg
              subst hvD
              have hT20 : T.length ≤ 20 := by have := List.length_filter_le (fun j => !isB S j.blue) L; rw [← HA.out.td] at this; omega
              have hG20 : G.length ≤ 20 := by
                have h1 := HA.out.doing
                have h2 := List.length_filter_le (isD S) (List.range p.n)
                rw [List.length_range, HPn.out] at h2
                have h3 : doing p S = ((List.range p.n).filter (isD S)).length := rfl
                rw [HPn.out] at h3
                omega
              have gm := (HX.out.fr.cell (p := ⟨g, 1, none⟩) gl).trans g1
              have glm := Nat.lt_of_lt_of_le gl HX.out.fr.size
              by_cases hd : (G.length : Int) < mk
              · have dd : decide ((G.length : Int) < mk) = true := decide_eq_true hd
                have HJWT : Hid (JW n T wr) := jw_sub (JW.below HJW.out HX.out.fr) fun j hj => (HA.out.mem_todo hj).1
                have CX := Lib.hid (indexJ_any B0 tg T.length tc n (by omega) (by omega) T gv gb b wr ⟨HX.out.td, rfl⟩ HJWT.out HX.out.ov.c2 HX.out.ov.l2 HX.out.ov.row)
                by_cases hf : fst (fun i => readyJ b (T.getD i noj)) T.length = -1
                · have HNX := Lib.hid (HA.out.next_none HPJ.out hf)
                  rw [hf] at CX
                  have HN : Hid (left p S = 0 ∨ nextR p S = none ∨ ¬ (doing p S : Int) < p.sl) := .inr (.inl HNX.out)
                  have HR0 : Hid (G.length = 0 → R = none) := fun h0 => by
                    obtain ⟨f', hf'⟩ : ∃ f', f = f' + 1 := ⟨f - 1, by have := HM.out.2.1; omega⟩
                    have h1 := HM.out.1
                    rw [hf'] at h1
                    exact plan_no h1 (by rw [HA.out.left HPJ.out]; have := HM.out.2.2.2; omega) HNX.out ((thenTo_zero HW.out.now0).2 (by rw [HA.out.doing]; exact h0))
                  by_cases hg0 : G.length = 0
                  · have hRn := HR0.out hg0
                    have dg0 : ((G.length : Int) == 0) = true := beq_iff_eq.2 (by omega)
                    have dg1 : (G.length : Int) = 0 := by omega
                    go_wp2_with (go_at_call 21; (with_reducible refine CX.out.mono ?_); rintro e w3 ⟨rfl, hb3⟩; have HX3 := Lib.hid (HX.out.below hb3))
                    go_ret2
                    rw [HVe.out, hRn]
                    exact plan_none 9 (below2 HBw.out HX3.out.fr)
                  · have hgp : 0 < G.length := by omega
                    have dg0 : ((G.length : Int) == 0) = false := beq_eq_false_iff_ne.2 (by omega)
                    have dg1 : ¬ (G.length : Int) = 0 := by omega
                    obtain ⟨f', hf'⟩ : ∃ f', Hid (f = f' + 1) := ⟨f - 1, by have := HM.out.2.1; show _ = _; omega⟩
                    have HBL : Hid (∀ i, i < G.length → (G.getD i noj).blue < n) := fun i hi => by
                      have := ((HA.out.mem _).1 (List.mem_map.2 ⟨_, getD_mem' hi noj, rfl⟩)).1
                      rwa [HPn.out] at this
                    go_upto_region 20 with (go_at_call 21; (with_reducible refine CX.out.mono ?_); rintro e w3 ⟨rfl, hb3⟩; have HX3 := Lib.hid (HX.out.below hb3))
                    obtain ⟨dg, hda, hdg0, hdg1⟩ := own_some HX3.out.dg hgp
                    subst hda
                    have CMn := Lib.hid (minJ_any B0 dg G.length dc n (by omega) (by omega) hgp G gx w1.heap.size w1.heap.size S.out HX3.out.ov.ol w3 ⟨HX3.out.dg, rfl⟩ HBL.out HX3.out.ov.c0 HX3.out.ov.l0 HX3.out.ov.own)
                    go_upto_region 21 with (go_at_call 26; (with_reducible refine CMn.out.mono ?_); rintro e w7 ⟨⟨q, hq, he, hmin⟩, hb7⟩; have HMIN := Lib.hid hmin; obtain ⟨j, hj⟩ : ∃ j, Hid (G.getD q noj = j) := ⟨_, rfl⟩; rw [hj.out] at he; clear hmin; obtain ⟨kk, jwa, jwc, jws, tt⟩ := j; dsimp only at he; subst he)
                    have HX7 := Lib.hid (HX3.out.below hb7)
                    obtain ⟨e1, e2, e3⟩ := HA.out.later HW.out hq HMIN.out
                    have HLt := Lib.hid (meas_later HW.out.now0 e2)
                    have HPLn : Hid (planTo p f' (later p S) = R) := by
                      have h1 := HM.out.1
                      have h2 := HM.out.2.1
                      have h3 := HLt.out
                      rw [hf'.out] at h1 h2
                      exact plan_adv h1 (by omega) (HN.out.imp id (Or.imp id Int.not_lt.2)) e2
                    have HMn : Hid (meas p (later p S) < f' ∧ meas p (later p S) < Gn) := by
                      have h2 := HM.out.2.1
                      have h4 := HM.out.2.2.1
                      have h3 := HLt.out
                      have h5 := hf'.out
                      have h6 := hGn.out
                      exact ⟨by omega, by omega⟩
                    have HWn := Lib.hid HW.out.later
                    have hkq := HBL.out q hq
                    have HBn : Hid ((later p S).now = endJ S.out (G.getD q noj)) := e1
                    rw [e1] at e3
                    have HAn := Lib.hid e3
                    have HDx : Hid (∃ k, k < G.length ∧ overD S.out (endJ S.out (G.getD q noj)) (G.getD k noj) = true) := ⟨q, hq, decide_eq_true (Int.le_refl _)⟩
                    have HE : Hid (∀ o : List Stk, (o.getD (G.getD q noj).blue (0, 0)).2 = endJ o (G.getD q noj)) := fun o => rfl
                    clear e1 e2 e3 HMIN HX CMn
                    rw [hj.out] at hkq HE
                    obtain ⟨E, hE⟩ : ∃ E, Hid (endJ S.out (G.getD q noj) = E) := ⟨_, rfl⟩
                    have HE2 : Hid ((S.out.getD kk (0, 0)).2 = E) := by rw [← hE.out, hj.out]; exact HE.out _
                    rw [hE.out] at HBn HAn HDx
                    dsimp only at hkq HE
                    have hk0 : (0 : Int) ≤ (kk : Int) := by omega
                    have hk1 : (kk : Int) < (n : Int) := by omega
                    have hk20 : (kk : Int) ≤ 20 := by omega
                    have HX8 := Lib.hid (HX7.out.below (below_al (Below.refl w7.heap.size w7) (.cells #[.int .i64 (kk : Int), .slice jwa jws.length jwc, .int .i64 tt] 62)))
                    have jc0 : (w7.alloc (.cells #[.int .i64 (kk : Int), .slice jwa jws.length jwc, .int .i64 tt] 62)).cell? ⟨w7.heap.size, 0, none⟩ = some (.int .i64 (kk : Int)) := by go_simp
                    have jl : w7.heap.size < (w7.alloc (.cells #[.int .i64 (kk : Int), .slice jwa jws.length jwc, .int .i64 tt] 62)).heap.size := by simp
                    clear HX7 HE
                    generalize w7.alloc (.cells #[.int .i64 (kk : Int), .slice jwa jws.length jwc, .int .i64 tt] 62) = W8 at *
                    generalize w7.heap.size = jg at *
                    have x0 := HX8.out.ov.c0
                    have x1 := HX8.out.ov.c1
                    have xl := HX8.out.ov.l1
                    have xf := HX8.out.fz
                    have o1 := span_end HX8.out.ov.own HX8.out.ov.ol hkq
                    rw [HE2.out] at o1
                    have ogl := (HX8.out.ov.own.lt _ rfl).2
                    go_upto_region 22 with (fail)
                    have HX9 := Lib.hid (HX8.out.setN HLy.out E)
                    clear x0 x1 xl xf o1 ogl jc0 jl
                    generalize W8.setCell ⟨gn, 0, none⟩ (.int .i64 E) = W9 at *
                    have CD := Lib.hid (deleteD_any B0 dg G.length dc n (by omega) (by omega) G gx gn gv w1.heap.size gb w1.heap.size S.out E b W9 ⟨HX9.out.dg, rfl⟩ HBL.out HX9.out.ov (by have := HLy.out.b; omega) (by have := HLy.out.b; omega) (HX9.out.nD dg rfl) (by have := HLy.out.b; omega) (by have := HLy.out.b; omega) HDx.out)
                    go_wp2_with (go_at_call 29; (with_reducible refine CD.out.mono ?_); rintro e w10 ⟨rfl, hown10, hov10, hg10⟩; have HX10 := Lib.hid (HX9.out.over HLy.out hg10.out hov10.out hown10.out))
                    go_roundg Gn
                    case measure => have := hGn.out; omega
                    case rel =>
                      refine ⟨later p S, ovTo b G (overD S.out E) G.length, T, kpJ (overD S.out E) G, f', rfl, ⟨HPLn.out, HMn.out.1, HMn.out.2⟩, HWn, HAn, ?_⟩
                      rw [HBn.out]
                      exact HX10.out
                · obtain ⟨i, hi, hFi, hnx⟩ := HA.out.next_some HPJ.out hf
                  have hi0 : (0 : Int) ≤ (i : Int) := by omega
                  have hi1 : (i : Int) < (T.length : Int) := by omega
                  have hi20 : (i : Int) ≤ 20 := by omega
                  have hi4 : ¬ (i : Int) < 0 := by omega
                  have di4 : decide ((i : Int) < 0) = false := decide_eq_false hi4
                  have HNX := Lib.hid hnx
                  obtain ⟨hjL, hjB⟩ := HA.out.mem_todo (getD_mem' hi noj)
                  have htm := HTM.out _ hjL
                  obtain ⟨hkn, hkr⟩ := HPJ.out.mem hjL
                  rw [HPn.out] at hkn
                  have hleft : left p S ≠ 0 := by rw [HA.out.left HPJ.out]; omega
                  have hdoing : (doing p S : Int) < p.sl := by rw [HA.out.doing, HPs.out]; exact hd
                  obtain ⟨f', hf'⟩ : ∃ f', f = f' + 1 := ⟨f - 1, by have := HM.out.2.1; omega⟩
                  have HPLn : Hid (planTo p f' (begin1 p S (T.getD i noj).blue) = R) := by
                    have h1 := HM.out.1
                    rw [hf'] at h1
                    exact plan_beg h1 hleft hnx hdoing
                  have hisT := isR_isT (find_lt hnx).2
                  have HMn : Hid (meas p (begin1 p S (T.getD i noj).blue) < f' ∧ meas p (begin1 p S (T.getD i noj).blue) < gk) := by
                    have h1 := meas_begin (p := p) (S := S) (k := (T.getD i noj).blue) (by rw [HPn.out]; exact hkn) (by rw [HW.out.lb, HPn.out]; exact hkn) (by rw [HW.out.lo, HPn.out]; exact hkn) hisT
                    have h2 := HM.out.2.1
                    have h3 := HM.out.2.2.1
                    exact ⟨by omega, by omega⟩
                  have HWn := Lib.hid (HW.out.begin HPb.out HPt.out (by rw [HPn.out]; exact hkn) hisT)
                  have HAn := Lib.hid (HA.out.begin HPJ.out HW.out HPt.out hi)
                  have hnow : 0 ≤ S.now ∧ S.now ≤ 2199023255552001980 := by
                    have h1 := HW.out.now1
                    have h2 := HW.out.now0
                    have h3 := jobsN_le p
                    have h4 := HPn.out
                    omega
                  have htb := HPb.out (T.getD i noj).blue
                  rw [← htm] at htb
                  obtain ⟨htb0, htb1⟩ := htb
                  have HTm := Lib.hid htm
                  have HBo : Hid ((begin1 p S (T.getD i noj).blue).out = S.out.set (T.getD i noj).blue (S.now, S.now + (T.getD i noj).time)) := by show _ = _; rw [HTm.out]; rfl
                  have HBn : Hid ((begin1 p S (T.getD i noj).blue).now = S.now) := rfl
                  clear hnx hjL hjB htm hkr hleft hdoing hisT
                  obtain ⟨j, hj⟩ : ∃ j, Hid (T.getD i noj = j) := ⟨_, rfl⟩
                  rw [hj.out] at HPLn HMn HWn HAn hkn htb0 htb1 HBo HBn
                  obtain ⟨nw, hnw⟩ : ∃ nw, Hid (S.now = nw) := ⟨_, rfl⟩
                  rw [hnw.out] at hnow HBo HBn
                  rw [hnw.out] at HX
                  obtain ⟨kk, jwa, jwc, jws, tt⟩ := j
                  dsimp only at *
                  have hk0 : (0 : Int) ≤ (kk : Int) := by omega
                  have hk1 : (kk : Int) < (n : Int) := by omega
                  have hk20 : (kk : Int) ≤ 20 := by omega
                  have es : IntKind.i64.wrap (nw + tt) = nw + tt := by rw [IntKind.wrap_i64]; omega
                  rw [hFi] at CX
                  go_upto_region 15 with (go_at_call 21; (with_reducible refine CX.out.mono ?_); rintro e w3 ⟨rfl, hb3⟩; have HX3 := Lib.hid (HX.out.below hb3))
                  have HX4 : Hid (PX w1 w1.heap.size gx gb gv gn B0 n S.out nw b T G (.slice (some ⟨tg, 0, none⟩) T.length tc) (.slice da G.length dc) w3.drew) := HX3.out.below (Below.refl _ _).drew
                  refine Ord.wp_region_U (fun W' => W'.cell? ⟨gx, 0, none⟩ = some (.slice (some ⟨w1.heap.size, 0, none⟩) n n) ∧ W'.cell? ⟨tg, i * 3, none⟩ = some (.int .i64 (kk : Int)) ∧ W'.cell? ⟨gn, 0, none⟩ = some (.int .i64 nw) ∧ W'.cell? ⟨tg, i * 3 + 2, none⟩ = some (.int .i64 tt)) [16] (by kernel_rfl) ?_
                  generalize w3.drew = W3 at *
                  have HJR : Hid (JR B0 tg T.length tc n T W3) := ⟨HX4.out.td, rfl⟩
                  obtain ⟨tgl, y0, y1, y2⟩ := HJR.out.cells hi
                  rw [hj.out] at y0 y1 y2
                  have hHeld : W3.cell? ⟨gx, 0, none⟩ = some (.slice (some ⟨w1.heap.size, 0, none⟩) n n) ∧ W3.cell? ⟨tg, i * 3, none⟩ = some (.int .i64 (kk : Int)) ∧ W3.cell? ⟨gn, 0, none⟩ = some (.int .i64 nw) ∧ W3.cell? ⟨tg, i * 3 + 2, none⟩ = some (.int .i64 tt) := ⟨HX4.out.ov.c0, y0, HX4.out.ov.c1, y2⟩
                  have o0 := span_beg HX4.out.ov.own HX4.out.ov.ol hkn
                  have o1 := span_end HX4.out.ov.own HX4.out.ov.ol hkn
                  have p0 := HX4.out.ov.own.frozenAt (kk * 2)
                  have p1 := HX4.out.ov.own.frozenAt (kk * 2 + 1)
                  have ogl := (HX4.out.ov.own.lt _ rfl).2
                  have HX5 := Lib.hid (HX4.out.setO HLy.out hkn nw (nw + tt))
                  refine take_at (i := 0) (v := ?_) 80 rfl rfl (by kernel_rfl) (by kernel_rfl) (by kernel_rfl) (by kernel_rfl) (by kernel_rfl) (by kernel_rfl) (by kernel_rfl) (fun _ _ _ h => h) (Or.inl ⟨by kernel_rfl, ?_⟩) hHeld ?_
                  rotate_left
                  · intro w hSw; (try dsimp only at hSw); (try obtain ⟨f0, f1, f2, f3⟩ := hSw); go_simp; (try with_reducible rfl)
                  try simp only [Act.put, List.setIfInBounds_toArray, List.set_cons_zero, List.set_cons_succ]
                  refine take_at (i := 1) (v := ?_) 81 rfl rfl (by kernel_rfl) (by kernel_rfl) (by kernel_rfl) (by kernel_rfl) (by kernel_rfl) (by kernel_rfl) (by kernel_rfl) (fun _ _ _ h => h) (Or.inl ⟨by kernel_rfl, ?_⟩) hHeld ?_
                  rotate_left
                  · intro w hSw; (try dsimp only at hSw); (try obtain ⟨f0, f1, f2, f3⟩ := hSw); go_simp; (try with_reducible rfl)
                  try simp only [Act.put, List.setIfInBounds_toArray, List.set_cons_zero, List.set_cons_succ]
                  refine take_at (i := 2) (v := ?_) 82 rfl rfl (by kernel_rfl) (by kernel_rfl) (by kernel_rfl) (by kernel_rfl) (by kernel_rfl) (by kernel_rfl) (by kernel_rfl) (fun _ _ _ h => h) (Or.inl ⟨by kernel_rfl, ?_⟩) hHeld ?_
                  rotate_left
                  · intro w hSw; (try dsimp only at hSw); (try obtain ⟨f0, f1, f2, f3⟩ := hSw); go_simp; (try with_reducible rfl)
                  try simp only [Act.put, List.setIfInBounds_toArray, List.set_cons_zero, List.set_cons_succ]
                  refine take_at (i := 3) (v := ?_) 83 rfl rfl (by kernel_rfl) (by kernel_rfl) (by kernel_rfl) (by kernel_rfl) (by kernel_rfl) (by kernel_rfl) (by kernel_rfl) (fun _ _ _ h => h) (Or.inl ⟨by kernel_rfl, ?_⟩) hHeld ?_
                  rotate_left
                  · intro w hSw; (try dsimp only at hSw); (try obtain ⟨f0, f1, f2, f3⟩ := hSw); go_simp; (try with_reducible rfl)
                  try simp only [Act.put, List.setIfInBounds_toArray, List.set_cons_zero, List.set_cons_succ]
                  refine take_at (i := 4) (v := ?_) 84 rfl rfl (by kernel_rfl) (by kernel_rfl) (by kernel_rfl) (by kernel_rfl) (by kernel_rfl) (by kernel_rfl) (by kernel_rfl) (fun _ _ _ h => h) (Or.inl ⟨by kernel_rfl, ?_⟩) hHeld ?_
                  rotate_left
                  · intro w hSw; (try dsimp only at hSw); (try obtain ⟨f0, f1, f2, f3⟩ := hSw); go_simp; (try with_reducible rfl)
                  try simp only [Act.put, List.setIfInBounds_toArray, List.set_cons_zero, List.set_cons_succ]
                  refine take_at (i := 5) (v := ?_) 85 rfl rfl (by kernel_rfl) (by kernel_rfl) (by kernel_rfl) (by kernel_rfl) (by kernel_rfl) (by kernel_rfl) (by kernel_rfl) (fun _ _ _ h => h) (Or.inl ⟨by kernel_rfl, ?_⟩) hHeld ?_
                  rotate_left
                  · intro w hSw; (try dsimp only at hSw); (try obtain ⟨f0, f1, f2, f3⟩ := hSw); go_simp; (try with_reducible rfl)
                  try simp only [Act.put, List.setIfInBounds_toArray, List.set_cons_zero, List.set_cons_succ]
                  refine take_at (i := 6) (v := ?_) 86 rfl rfl (by kernel_rfl) (by kernel_rfl) (by kernel_rfl) (by kernel_rfl) (by kernel_rfl) (by kernel_rfl) (by kernel_rfl) (fun _ _ _ h => h) (Or.inl ⟨by kernel_rfl, ?_⟩) hHeld ?_
                  rotate_left
                  · intro w hSw; (try dsimp only at hSw); (try obtain ⟨f0, f1, f2, f3⟩ := hSw); go_simp; (try with_reducible rfl)
                  try simp only [Act.put, List.setIfInBounds_toArray, List.set_cons_zero, List.set_cons_succ]
                  refine take_at (i := 7) (v := ?_) 87 rfl rfl (by kernel_rfl) (by kernel_rfl) (by kernel_rfl) (by kernel_rfl) (by kernel_rfl) (by kernel_rfl) (by kernel_rfl) (fun _ _ _ h => h) (Or.inl ⟨by kernel_rfl, ?_⟩) hHeld ?_
                  rotate_left
                  · intro w hSw; (try dsimp only at hSw); (try obtain ⟨f0, f1, f2, f3⟩ := hSw); go_simp; (try with_reducible rfl)
                  try simp only [Act.put, List.setIfInBounds_toArray, List.set_cons_zero, List.set_cons_succ]
                  refine take_at (i := 8) (v := ?_) 88 rfl rfl (by kernel_rfl) (by kernel_rfl) (by kernel_rfl) (by kernel_rfl) (by kernel_rfl) (by kernel_rfl) (by kernel_rfl) (fun _ _ _ h => h) (Or.inl ⟨by kernel_rfl, ?_⟩) hHeld ?_
                  rotate_left
                  · intro w hSw; (try dsimp only at hSw); (try obtain ⟨f0, f1, f2, f3⟩ := hSw); go_simp; (try with_reducible rfl)
                  try simp only [Act.put, List.setIfInBounds_toArray, List.set_cons_zero, List.set_cons_succ]
                  refine take_at (i := 9) (v := ?_) 89 rfl rfl (by kernel_rfl) (by kernel_rfl) (by kernel_rfl) (by kernel_rfl) (by kernel_rfl) (by kernel_rfl) (by kernel_rfl) (fun _ _ _ h => h) (Or.inl ⟨by kernel_rfl, ?_⟩) hHeld ?_
                  rotate_left
                  · intro w hSw; (try dsimp only at hSw); (try obtain ⟨f0, f1, f2, f3⟩ := hSw); go_simp; (try with_reducible rfl)
                  try simp only [Act.put, List.setIfInBounds_toArray, List.set_cons_zero, List.set_cons_succ]
                  refine take_at (i := 10) (v := ?_) 90 rfl rfl (by kernel_rfl) (by kernel_rfl) (by kernel_rfl) (by kernel_rfl) (by kernel_rfl) (by kernel_rfl) (by kernel_rfl) (fun _ _ _ h => h) (Or.inl ⟨by kernel_rfl, ?_⟩) hHeld ?_
                  rotate_left
                  · intro w hSw; (try dsimp only at hSw); (try obtain ⟨f0, f1, f2, f3⟩ := hSw); go_simp; (try with_reducible rfl)
                  try simp only [Act.put, List.setIfInBounds_toArray, List.set_cons_zero, List.set_cons_succ]
                  refine take_at (i := 11) (v := ?_) 91 rfl rfl (by kernel_rfl) (by kernel_rfl) (by kernel_rfl) (by kernel_rfl) (by kernel_rfl) (by kernel_rfl) (by kernel_rfl) (fun _ _ _ h => h) (Or.inl ⟨by kernel_rfl, ?_⟩) hHeld ?_
                  rotate_left
                  · intro w hSw; (try dsimp only at hSw); (try obtain ⟨f0, f1, f2, f3⟩ := hSw); go_simp; (try with_reducible rfl)
                  try simp only [Act.put, List.setIfInBounds_toArray, List.set_cons_zero, List.set_cons_succ]
                  refine take_at (i := 12) (v := ?_) 92 rfl rfl (by kernel_rfl) (by kernel_rfl) (by kernel_rfl) (by kernel_rfl) (by kernel_rfl) (by kernel_rfl) (by kernel_rfl) (fun _ _ _ h => h) (Or.inl ⟨by kernel_rfl, ?_⟩) hHeld ?_
                  rotate_left
                  · intro w hSw; (try dsimp only at hSw); (try obtain ⟨f0, f1, f2, f3⟩ := hSw); go_simp; (try with_reducible rfl)
                  try simp only [Act.put, List.setIfInBounds_toArray, List.set_cons_zero, List.set_cons_succ]
                  refine take_at (i := 13) (v := ?_) 93 rfl rfl (by kernel_rfl) (by kernel_rfl) (by kernel_rfl) (by kernel_rfl) (by kernel_rfl) (by kernel_rfl) (by kernel_rfl) (fun _ _ _ h => h) (Or.inl ⟨by kernel_rfl, ?_⟩) hHeld ?_
                  rotate_left
                  · intro w hSw; (try dsimp only at hSw); (try obtain ⟨f0, f1, f2, f3⟩ := hSw); go_simp; (try with_reducible rfl)
                  try simp only [Act.put, List.setIfInBounds_toArray, List.set_cons_zero, List.set_cons_succ]
                  refine take_at (i := 14) (v := ?_) 94 rfl rfl (by kernel_rfl) (by kernel_rfl) (by kernel_rfl) (by kernel_rfl) (by kernel_rfl) (by kernel_rfl) (by kernel_rfl) (fun _ _ _ h => h) (Or.inl ⟨by kernel_rfl, ?_⟩) hHeld ?_
                  rotate_left
                  · intro w hSw; (try dsimp only at hSw); (try obtain ⟨f0, f1, f2, f3⟩ := hSw); go_simp; (try with_reducible rfl)
                  try simp only [Act.put, List.setIfInBounds_toArray, List.set_cons_zero, List.set_cons_succ]
                  refine take_at (i := 15) (v := ?_) 95 rfl rfl (by kernel_rfl) (by kernel_rfl) (by kernel_rfl) (by kernel_rfl) (by kernel_rfl) (by kernel_rfl) (by kernel_rfl) (fun _ _ _ h => h) (Or.inl ⟨by kernel_rfl, ?_⟩) hHeld ?_
                  rotate_left
                  · intro w hSw; (try dsimp only at hSw); (try obtain ⟨f0, f1, f2, f3⟩ := hSw); go_simp; (try with_reducible rfl)
                  try simp only [Act.put, List.setIfInBounds_toArray, List.set_cons_zero, List.set_cons_succ]
                  refine Ord.wpAnyU_one (i := 16) (by kernel_rfl) rfl (fun K hK => ?_)
                  go_simp
                  refine hK.out _ _ (fun h => by cases h) ?_
                  clear hK K
                  try simp only [Act.put, List.setIfInBounds_toArray, List.set_cons_zero, List.set_cons_succ]
                  refine Ord.wpAnyU_done (by kernel_rfl) ?_ _
                  have HJR5 : Hid (JR B0 tg T.length tc n T ((W3.setCell ⟨w1.heap.size, kk * 2, none⟩ (.int .i64 nw)).setCell ⟨w1.heap.size, kk * 2 + 1, none⟩ (.int .i64 (nw + tt)))) := ⟨HX5.out.td, rfl⟩
                  clear y0 y1 y2 hHeld o0 o1 p0 p1 ogl HX4 HX3 tgl
                  generalize (W3.setCell ⟨w1.heap.size, kk * 2, none⟩ (.int .i64 nw)).setCell ⟨w1.heap.size, kk * 2 + 1, none⟩ (.int .i64 (nw + tt)) = W4 at *
                  obtain ⟨tgl, y0, y1, y2⟩ := HJR5.out.cells hi
                  rw [hj.out] at y0 y1 y2
                  have HTl : Hid (T.length = T.length) := rfl
                  go_upto_region 17 with (at_builtin; refine wpList_append_own_at _ rfl (.tmp 96) (.tmp 101) 56 rfl B0 62 iJ _ 3 40 Try.underlying56 hiJ hzJ hzK hzL rfl (by decide) (.slice da G.length dc) G.length _ rfl (HX5.out.dg.alloc _) ⟨W4.heap.size, 0, none⟩ 1 1 [.int .i64 (kk : Int), .slice jwa jws.length jwc, .int .i64 tt] rfl rfl (job_new _ _ _ _ _) (by simp [Value.oneCell']) ?h1 ?h2 ?h3 ?_; (case h1 => unfold maxLen; omega); (case h2 => omega); (case h3 => have := HX5.out.ov.l1; have := HLy.out.b.2.2.2.2; simp; omega); intro v6 w6 hown6 hgrow6 hnil6 hat6; have HX6 := Lib.hid ((HX5.out.below (below_al (Below.refl W4.heap.size W4) (.cells #[.int .i64 (kk : Int), .slice jwa jws.length jwc, .int .i64 tt] 62))).add HLy.out (j := ⟨kk, jwa, jwc, jws, tt⟩) hgrow6 (by rw [jobVals_append]; simpa [jobVals, jcells] using hown6) hat6))
                  have CD := Lib.hid (deleteJ2_any B0 tg T.length tc n (by omega) (by omega) T w6 ⟨HX6.out.td, rfl⟩ i hi)
                  have ei1 : IntKind.i64.wrap ((i : Int) + 1) = (i : Int) + 1 := by rw [IntKind.wrap_i64]; omega
                  have hTe : (T.eraseIdx i).length < T.length := by rw [List.length_eraseIdx, if_pos hi]; omega
                  go_wp2_with (go_at_call 25; (with_reducible refine CD.out.mono ?_); rintro e w7 ⟨rfl, hown7, hgrow7⟩; have HX7 := Lib.hid (HX6.out.del HLy.out rfl hgrow7.out hown7.out rfl))
                  go_roundw
                  case measure => exact hTe
                  case rel =>
                    refine ⟨begin1 p S kk, b, T.eraseIdx i, G ++ [⟨kk, jwa, jwc, jws, tt⟩], f', rfl, ⟨HPLn.out, HMn.out.1, HMn.out.2, by rw [List.length_append]; show 0 < _ + (_ + 1); omega⟩, HWn, HAn, ?_⟩
                    rw [HBo.out, HBn.out]
                    exact HX7.out
              · have dd : decide ((G.length : Int) < mk) = false := decide_eq_false hd
                have hg0 : G.length ≠ 0 := by omega
                have HN : Hid (left p S = 0 ∨ nextR p S = none ∨ ¬ (doing p S : Int) < p.sl) := .inr (.inr (by rw [HA.out.doing, HPs.out]; exact hd))
                have hgp : 0 < G.length := by omega
                have dg0 : ((G.length : Int) == 0) = false := beq_eq_false_iff_ne.2 (by omega)
                have dg1 : ¬ (G.length : Int) = 0 := by omega
                obtain ⟨f', hf'⟩ : ∃ f', Hid (f = f' + 1) := ⟨f - 1, by have := HM.out.2.1; show _ = _; omega⟩
                have HBL : Hid (∀ i, i < G.length → (G.getD i noj).blue < n) := fun i hi => by
                  have := ((HA.out.mem _).1 (List.mem_map.2 ⟨_, getD_mem' hi noj, rfl⟩)).1
                  rwa [HPn.out] at this
                go_upto_region 20 with (fail)
                obtain ⟨dg, hda, hdg0, hdg1⟩ := own_some HX.out.dg hgp
                subst hda
                have CMn := Lib.hid (minJ_any B0 dg G.length dc n (by omega) (by omega) hgp G gx w1.heap.size w1.heap.size S.out HX.out.ov.ol wr ⟨HX.out.dg, rfl⟩ HBL.out HX.out.ov.c0 HX.out.ov.l0 HX.out.ov.own)
                go_upto_region 21 with (go_at_call 26; (with_reducible refine CMn.out.mono ?_); rintro e w7 ⟨⟨q, hq, he, hmin⟩, hb7⟩; have HMIN := Lib.hid hmin; obtain ⟨j, hj⟩ : ∃ j, Hid (G.getD q noj = j) := ⟨_, rfl⟩; rw [hj.out] at he; clear hmin; obtain ⟨kk, jwa, jwc, jws, tt⟩ := j; dsimp only at he; subst he)
                have HX7 := Lib.hid (HX.out.below hb7)
                obtain ⟨e1, e2, e3⟩ := HA.out.later HW.out hq HMIN.out
                have HLt := Lib.hid (meas_later HW.out.now0 e2)
                have HPLn : Hid (planTo p f' (later p S) = R) := by
                  have h1 := HM.out.1
                  have h2 := HM.out.2.1
                  have h3 := HLt.out
                  rw [hf'.out] at h1 h2
                  exact plan_adv h1 (by omega) (HN.out.imp id (Or.imp id Int.not_lt.2)) e2
                have HMn : Hid (meas p (later p S) < f' ∧ meas p (later p S) < Gn) := by
                  have h2 := HM.out.2.1
                  have h4 := HM.out.2.2.1
                  have h3 := HLt.out
                  have h5 := hf'.out
                  have h6 := hGn.out
                  exact ⟨by omega, by omega⟩
                have HWn := Lib.hid HW.out.later
                have hkq := HBL.out q hq
                have HBn : Hid ((later p S).now = endJ S.out (G.getD q noj)) := e1
                rw [e1] at e3
                have HAn := Lib.hid e3
                have HDx : Hid (∃ k, k < G.length ∧ overD S.out (endJ S.out (G.getD q noj)) (G.getD k noj) = true) := ⟨q, hq, decide_eq_true (Int.le_refl _)⟩
                have HE : Hid (∀ o : List Stk, (o.getD (G.getD q noj).blue (0, 0)).2 = endJ o (G.getD q noj)) := fun o => rfl
                clear e1 e2 e3 HMIN HX CMn
                rw [hj.out] at hkq HE
                obtain ⟨E, hE⟩ : ∃ E, Hid (endJ S.out (G.getD q noj) = E) := ⟨_, rfl⟩
                have HE2 : Hid ((S.out.getD kk (0, 0)).2 = E) := by rw [← hE.out, hj.out]; exact HE.out _
                rw [hE.out] at HBn HAn HDx
                dsimp only at hkq HE
                have hk0 : (0 : Int) ≤ (kk : Int) := by omega
                have hk1 : (kk : Int) < (n : Int) := by omega
                have hk20 : (kk : Int) ≤ 20 := by omega
                have HX8 := Lib.hid (HX7.out.below (below_al (Below.refl w7.heap.size w7) (.cells #[.int .i64 (kk : Int), .slice jwa jws.length jwc, .int .i64 tt] 62)))
                have jc0 : (w7.alloc (.cells #[.int .i64 (kk : Int), .slice jwa jws.length jwc, .int .i64 tt] 62)).cell? ⟨w7.heap.size, 0, none⟩ = some (.int .i64 (kk : Int)) := by go_simp
                have jl : w7.heap.size < (w7.alloc (.cells #[.int .i64 (kk : Int), .slice jwa jws.length jwc, .int .i64 tt] 62)).heap.size := by simp
                clear HX7 HE
                generalize w7.alloc (.cells #[.int .i64 (kk : Int), .slice jwa jws.length jwc, .int .i64 tt] 62) = W8 at *
                generalize w7.heap.size = jg at *
                have x0 := HX8.out.ov.c0
                have x1 := HX8.out.ov.c1
                have xl := HX8.out.ov.l1
                have xf := HX8.out.fz
                have o1 := span_end HX8.out.ov.own HX8.out.ov.ol hkq
                rw [HE2.out] at o1
                have ogl := (HX8.out.ov.own.lt _ rfl).2
                go_upto_region 22 with (fail)
                have HX9 := Lib.hid (HX8.out.setN HLy.out E)
                clear x0 x1 xl xf o1 ogl jc0 jl
                generalize W8.setCell ⟨gn, 0, none⟩ (.int .i64 E) = W9 at *
                have CD := Lib.hid (deleteD_any B0 dg G.length dc n (by omega) (by omega) G gx gn gv w1.heap.size gb w1.heap.size S.out E b W9 ⟨HX9.out.dg, rfl⟩ HBL.out HX9.out.ov (by have := HLy.out.b; omega) (by have := HLy.out.b; omega) (HX9.out.nD dg rfl) (by have := HLy.out.b; omega) (by have := HLy.out.b; omega) HDx.out)
                go_wp2_with (go_at_call 29; (with_reducible refine CD.out.mono ?_); rintro e w10 ⟨rfl, hown10, hov10, hg10⟩; have HX10 := Lib.hid (HX9.out.over HLy.out hg10.out hov10.out hown10.out))
                go_roundg Gn
                case measure => have := hGn.out; omega
                case rel =>
                  refine ⟨later p S, ovTo b G (overD S.out E) G.length, T, kpJ (overD S.out E) G, f', rfl, ⟨HPLn.out, HMn.out.1, HMn.out.2⟩, HWn, HAn, ?_⟩
                  rw [HBn.out]
                  exact HX10.out
      · have hL1 : ¬ (0 : Int) < (L.length : Int) := by omega
        have dL : decide ((0 : Int) < (L.length : Int)) = false := decide_eq_false hL1
        have hLe : L = [] := List.length_eq_zero_iff.1 (by omega)
        have HRs : Hid (R = some (ps0 n).out) := by
          have h1 := hR.out
          exact plan_out h1 (by rw [HA0.out.left HPJ.out]; omega)
        have HF4 : Hid (Below w1.heap.size w1 ((((w1.alloc (.cells (madeCells #[.int .i64 0, .int .i64 0] (n * 2)) 46)).alloc (.cells #[.slice (some ⟨w1.heap.size, 0, none⟩) n n] 32)).alloc (.cells (madeCells #[.bool false] n) 4)).alloc (.cells #[.slice (some ⟨w1.heap.size + 1 + 1, 0, none⟩) n n] 59))) := below_al (below_al (below_al (below_al (Below.refl _ _) _) _) _) _
        have CL := Lib.hid (cloneJ_any (g + 1) L (.slice ja L.length jc) (by omega) ((((w1.alloc (.cells (madeCells #[.int .i64 0, .int .i64 0] (n * 2)) 46)).alloc (.cells #[.slice (some ⟨w1.heap.size, 0, none⟩) n n] 32)).alloc (.cells (madeCells #[.bool false] n) 4)).alloc (.cells #[.slice (some ⟨w1.heap.size + 1 + 1, 0, none⟩) n n] 59)) (Own.own_below HS1.out.own HF4.out))
        have hLz : L.length = 0 := by omega
        rw [hLz] at CL
        go_upto_region 9 with (fail)
        have g54 := (HF4.out.cell (p := ⟨g, 5, none⟩) gl).trans g5
        have gl4 := Nat.lt_of_lt_of_le gl HF4.out.size
        have s4 : ((((w1.alloc (.cells (madeCells #[.int .i64 0, .int .i64 0] (n * 2)) 46)).alloc (.cells #[.slice (some ⟨w1.heap.size, 0, none⟩) n n] 32)).alloc (.cells (madeCells #[.bool false] n) 4)).alloc (.cells #[.slice (some ⟨w1.heap.size + 1 + 1, 0, none⟩) n n] 59)).heap.size = w1.heap.size + 4 := by simp
        have HOVN : Hid (∀ w5 : World, Below ((((w1.alloc (.cells (madeCells #[.int .i64 0, .int .i64 0] (n * 2)) 46)).alloc (.cells #[.slice (some ⟨w1.heap.size, 0, none⟩) n n] 32)).alloc (.cells (madeCells #[.bool false] n) 4)).alloc (.cells #[.slice (some ⟨w1.heap.size + 1 + 1, 0, none⟩) n n] 59)).heap.size ((((w1.alloc (.cells (madeCells #[.int .i64 0, .int .i64 0] (n * 2)) 46)).alloc (.cells #[.slice (some ⟨w1.heap.size, 0, none⟩) n n] 32)).alloc (.cells (madeCells #[.bool false] n) 4)).alloc (.cells #[.slice (some ⟨w1.heap.size + 1 + 1, 0, none⟩) n n] 59)) w5 → OV (w1.heap.size + 1) w5.heap.size (w1.heap.size + 1 + 1 + 1) w1.heap.size (w1.heap.size + 1 + 1) w1.heap.size n (ps0 n).out 0 (List.replicate n false) (w5.alloc (.cells #[.int .i64 0] 3))) := fun w5 h => ov_new w1 n (by omega) h
        generalize ((((w1.alloc (.cells (madeCells #[.int .i64 0, .int .i64 0] (n * 2)) 46)).alloc (.cells #[.slice (some ⟨w1.heap.size, 0, none⟩) n n] 32)).alloc (.cells (madeCells #[.bool false] n) 4)).alloc (.cells #[.slice (some ⟨w1.heap.size + 1 + 1, 0, none⟩) n n] 59)) = W4 at *
        go_upto_region 10 with (go_at_call 20; (with_reducible refine CL.out.mono ?_); rintro e w5 ⟨vT, rfl, HO5, HB5⟩)
        obtain ⟨ta, tc, hvT⟩ := own_slice HO5.out
        subst hvT
        have HOV0 : Hid (OV (w1.heap.size + 1) w5.heap.size (w1.heap.size + 1 + 1 + 1) w1.heap.size (w1.heap.size + 1 + 1) w1.heap.size n (ps0 n).out 0 (List.replicate n false) (w5.alloc (.cells #[.int .i64 0] 3))) := HOVN.out w5 HB5.out
        have HFs : Hid (Below w1.heap.size w1 (w5.alloc (.cells #[.int .i64 0] 3))) := below_al (HF4.out.trans (HB5.out.mono HF4.out.size)) _
        clear CL HO5 mkS mkB HOVN
        go_wp2
        generalize w5.alloc (.cells #[.int .i64 0] 3) = W6 at *
        generalize w5.heap.size = gn at *
        go_loopg [14, 15] 1 (fun gk v14 v15 wr => gk = 1 ∧ v14 = .slice none 0 0 ∧ v15 = .slice ta 0 tc ∧ wr = W6)
        case atStart => exact ⟨rfl, rfl, rfl, rfl⟩
        case round =>
          obtain ⟨rfl, rfl, rfl, rfl⟩ := hrel
          have x0 := HOV0.out.c0
          have xl := HOV0.out.l0
          go_wp2
          go_ret2
          rw [HVe.out, HRs.out]
          have hol := HOV0.out.ol
          refine ⟨some ⟨w1.heap.size, 0, none⟩, n, ?_, ?_, below2 HBw.out HFs.out⟩
          · show _ = Ending.returned (.tuple #[.slice _ (ps0 n).out.length n, .int .i64 0])
            rw [hol]
            rfl
          · obtain ⟨a2, cap2, e2, h2⟩ := Rec.stks_of_own (l := (ps0 n).out) (by rw [hol]; exact HOV0.out.own)
            injection e2 with h3 h4 h5
            rw [h3]
            exact h2
  · have CM : Hid (∀ W, Below w.heap.size w W → Calls Try.prog 19 #[.agg c.val, .int .i64 bay, .slice a l.length cap, .int .i64 level] W fun e w' => e = .returned (.tuple #[.pointer none, .int .i64 (mayV c bay l level)]) ∧ Below W.heap.size W w') := fun W h => made_no c W (hc.below h) bay a cap l hl (ha.below h) level hm
    have HV : Hid (planV c bay l level = ([], mayV c bay l level)) := by
      show _ = _
      unfold planV
      rw [if_pos hm]
    rw [HV.out]
    have dm : (mayV c bay l level != 0) = true := bne_iff_ne.2 hm
    generalize mayV c bay l level = M at *
    clear hc ha HV
    unfold CatIn.val at *
    go_enter Try.func8, Try.ntmps8
    go_wp2_with (go_at_call 19; (with_reducible refine (CM.out _ (box_b HB0.out)).mono ?_); rintro e w1 ⟨rfl, hb1⟩)
    go_ret2
    exact plan_none M (below2 (box_b HB0.out) hb1)
end Quo
end Go.Proofs.Ytiabnjmblcogmaa
end
