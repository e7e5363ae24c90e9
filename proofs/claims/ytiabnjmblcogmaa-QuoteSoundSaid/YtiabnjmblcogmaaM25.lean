/- Texts put together: QuoZ. -/
import Derived.Test.YtiabnjmblcogmaaM22
set_option linter.all false
section
namespace Go.Proofs.Ytiabnjmblcogmaa
open Go.RowKit
namespace Quo
open Cat (CatIn BayIn chkC nob noy makerV Cam Box box_new box_b box_next box_flat)
open Rec (BlueIn Stk Stks stkVals)
open Pen (below2 below_al below_dN)
theorem isO_of (S : PS) (x : Nat) : isO S x = (isB S x && decide (endOf S x ≤ S.now)) := rfl
def finV (r : Option (List Stk)) : List Stk × Int := match r with
  | none => ([], 9)
  | some o => (o, 0)
set_option maxRecDepth 100000 in
set_option maxHeartbeats 16000000 in
theorem refPlan_any (c : CatIn) (w : World) (hc : Cam w c) (bay : Int) (a : Option Addr) (cap : Nat) (l : List Int) (hl : l.length ≤ 20) (ha : In.Ints .i64 w a l) (level : Int) :
    Calls Try.prog 9 #[.agg c.val, .int .i64 bay, .slice a l.length cap, .int .i64 level] w (PlanRes (planV c bay l level) w) := by
  have HB0 := Lib.hid (box_new w c 27)
  have CM : Hid (∀ W, Below w.heap.size w W → Calls Try.prog 31 #[.agg c.val, .int .i64 bay, .slice a l.length cap, .int .i64 level] W fun e w' => e = .returned (.int .i64 (mayV c bay l level)) ∧ Below W.heap.size W w') := fun W h => may_any c W (hc.below h) bay a cap l hl (ha.below h) level
  by_cases hm : mayV c bay l level = 0
  · obtain ⟨hK, hb1, hb2, hr, -, -⟩ := mayV_ok hm
    have hlen := runsOk_len hr
    rw [hm] at CM
    have hnb := (good_of hK).2.1
    have hny := hc.small.2.1
    have hmk := (bay_of hK (i := bay.toNat - 1) (by omega)).1
    obtain ⟨p, hp⟩ : ∃ p, Hid (pcOf c bay l level = p) := ⟨_, rfl⟩
    have HPn : Hid (p.n = c.blues.length) := by rw [← hp.out]; rfl
    have HPr : Hid (∀ k, p.run k = !decide (l.getD k 0 = 0)) := by rw [← hp.out]; exact fun k => rfl
    have HPs : Hid (p.sl = (c.bays.getD (bay.toNat - 1) noy).make) := by rw [← hp.out]; rfl
    have HPt : Hid (PT p) := by rw [← hp.out]; exact pcOf_pos hm
    have HPb : Hid (∀ k, 0 ≤ p.tm k ∧ p.tm k ≤ 109951162777600099) := by rw [← hp.out]; exact pcOf_time c bay l level
    have HRn : Hid (∀ k, k < l.length → 0 ≤ l.getD k 0) := fun k hk => (run_of hr k hk).1
    have CT : Hid (∀ W (k : Nat), k < l.length → Below w.heap.size w W → Calls Try.prog 33 #[.agg c.val, .int .i64 (k : Int), .slice a l.length cap, .int .i64 level] W fun e w' => e = .returned (.int .i64 (p.tm k)) ∧ Below W.heap.size W w') := fun W k hk h => by
      rw [← hp.out]
      exact time_any c W (hc.below h) k (by omega) a cap l hl hk (ha.below h) level
    have CW : Hid (∀ W (k x : Nat), k < l.length → x < l.length → Below w.heap.size w W → Calls Try.prog 32 #[.agg c.val, .slice a l.length cap, .int .i64 (k : Int), .int .i64 (x : Int)] W fun e w' => e = .returned (.bool (p.wt k x)) ∧ Below W.heap.size W w') := fun W k x hk hx h => by
      rw [← hp.out]
      exact waits_any c W (hc.below h) k x (by omega) a cap l hl hx (ha.below h)
    have HV : Hid (planV c bay l level = if 0 < jobsN p ∧ p.sl = 0 then ([], 10) else finV (planTo p (2 * p.n + 1) (ps0 p.n))) := by
      show _ = _
      unfold planV
      rw [if_neg (by simpa using hm), ← hp.out]
      rfl
    obtain ⟨Bn, rfl⟩ : ∃ Bn : Nat, bay = (Bn : Int) + 1 := ⟨bay.toNat - 1, by omega⟩
    have hBn : Bn < c.bays.length := by omega
    rw [show ((Bn : Int) + 1).toNat - 1 = Bn by omega] at hmk HPs
    clear hp
    generalize planV c ((Bn : Int) + 1) l level = V at *
    obtain ⟨yb, yo, hya, hyl, -, y1, -, -⟩ := hc.lies.2.1 Bn hBn
    obtain ⟨types, blues, baddr, bcap, places, bays, yaddr, ycap, chars, broker, least, sales⟩ := c
    dsimp only at *
    subst hya
    have HY1 : Hid (w.cell? ⟨yb, yo + Bn * 4 + 1, none⟩ = some (.int .i64 (bays.getD Bn noy).make)) := y1
    generalize (bays.getD Bn noy).make = mk at *
    have HA := Lib.hid ha
    clear ha hc y1 hm hr hb1 hK
    obtain ⟨n, hn⟩ : ∃ n, Hid (blues.length = n) := ⟨_, rfl⟩
    rw [hn.out] at HPn hlen hnb
    have HLl : Hid (l.length = n) := hlen
    unfold CatIn.val at *
    dsimp only at *
    rw [hn.out] at CM CT CW HB0 ⊢
    rw [hlen] at CM CT CW hl HRn ⊢
    clear hlen
    have hb0 : (0 : Int) ≤ (Bn : Int) := by omega
    have hb3 : (Bn : Int) < (bays.length : Int) := by omega
    have hb20 : (Bn : Int) ≤ 20 := by omega
    have hyl2 := hyl
    have HBF : Hid (∀ W, Hid (Box w ⟨types, blues, baddr, bcap, places, bays, some ⟨yb, yo, none⟩, ycap, chars, broker, least, sales⟩ W) → W.cell? ⟨w.heap.size, 0, none⟩ = some (.int .i64 types) ∧ W.cell? ⟨w.heap.size, 1, none⟩ = some (.slice baddr n bcap) ∧ W.cell? ⟨w.heap.size, 2, none⟩ = some (.int .i64 places) ∧ W.cell? ⟨w.heap.size, 3, none⟩ = some (.slice (some ⟨yb, yo, none⟩) bays.length ycap) ∧ W.cell? ⟨w.heap.size, 4, none⟩ = some (.int .i64 chars) ∧ W.cell? ⟨w.heap.size, 5, none⟩ = some (.int .i64 broker) ∧ W.cell? ⟨w.heap.size, 6, none⟩ = some (.int .i64 least) ∧ W.cell? ⟨w.heap.size, 7, none⟩ = some (.int .i64 sales) ∧ W.cell? ⟨yb, yo + Bn * 4 + 1, none⟩ = some (.int .i64 mk) ∧ yb < W.heap.size ∧ w.heap.size < W.heap.size) := fun W h => by
      obtain ⟨c0, c1, c2, c3, c4, c5, c6, c7, -⟩ := box_flat h
      rw [← hn.out]
      exact ⟨c0, c1, c2, c3, c4, c5, c6, c7, ((box_b h.out).cell (p := ⟨yb, yo + Bn * 4 + 1, none⟩) hyl).trans HY1.out, Nat.lt_of_lt_of_le hyl (box_b h.out).size, h.out.2.1⟩
    have mkS := run_mkS n (by omega)
    have mkB := run_mkB n (by omega)
    have HJT : Hid (∀ k, (jobsTo l (k + 1)).length = (jobsTo l k).length + if l.getD k 0 = 0 then 0 else 1) := fun k => by rw [jobsTo_succ, List.length_append]; split <;> rfl
    have HJN : Hid (jobsN p = (jobsTo l n).length) := by
      show _ = _
      unfold jobsN jobsTo
      rw [HPn.out]
      congr 1
      exact List.filter_congr fun x _ => HPr.out x
    have HJ0 : Hid ((jobsTo l 0).length = 0) := rfl
    obtain ⟨JT, hJT⟩ : ∃ JT : Nat → Nat, Hid ((fun k => (jobsTo l k).length) = JT) := ⟨_, rfl⟩
    have hJT2 : ∀ k, (jobsTo l k).length = JT k := fun k => congrFun hJT.out k
    have HJL : Hid (∀ k, JT k ≤ k) := fun k => by rw [← hJT2]; exact jobsTo_len l k
    simp only [hJT2] at HJT HJN HJ0
    clear hJT2 hJT
    go_enter Try.func9, Try.ntmps9
    go_wp2_with (go_at_call 31; (with_reducible refine (CM.out _ (box_b HB0.out)).mono ?_); rintro e w1 ⟨rfl, hbb1⟩; have HB1 := Lib.hid (box_next HB0.out hbb1); clear hbb1; obtain ⟨c0, c1, c2, c3, c4, c5, c6, c7, r3, hyr, hs2⟩ := HBF.out _ HB1)
    have HPR := Lib.hid (pr_new w1 n (by omega))
    have hsn : ps0 n = ⟨List.replicate n (0, 0), List.replicate n false, 0⟩ := rfl
    generalize (w1.alloc (.cells (madeCells #[.int .i64 0, .int .i64 0] (n * 2)) 46)).alloc (.cells (madeCells #[.bool false] n) 4) = W2 at *
    clear mkS mkB c0 c1 c2 c3 c4 c5 c6 c7 r3 hyr hs2
    go_loop [14, 15] (fun v14 v15 => ∃ k : Nat, k ≤ n ∧ v15 = .int .i64 (k : Int) ∧ v14 = .int .i64 (JT k : Int)) (fun _ v15 => n - (intOf v15).toNat)
    case atStart => exact ⟨0, Nat.zero_le _, rfl, by rw [HJ0.out]; rfl⟩
    case round =>
      obtain ⟨k, hk, rfl, rfl⟩ := hrel
      have hjl := HJL.out k
      by_cases hkn : k < n
      · have dk : decide ((k : Int) < (n : Int)) = true := decide_eq_true (by omega)
        have hk0 : (0 : Int) ≤ (k : Int) := by omega
        have hk1 : (k : Int) < (n : Int) := by omega
        obtain ⟨rb, ro, rfl, hrl, hrc⟩ := HA.out k (by rw [HLl.out]; exact hkn)
        have x0 := ((below2 (box_b HB1.out) HPR.out.fr).cell (p := ⟨rb, ro + k, none⟩) hrl).trans hrc
        have hrs := Nat.lt_of_lt_of_le hrl (below2 (box_b HB1.out) HPR.out.fr).size
        have hjt := HJT.out k
        have hq0 := HRn.out k hkn
        clear hrc
        generalize l.getD k 0 = q at *
        by_cases hq : q = 0
        · subst hq
          rw [if_pos rfl] at hjt
          have HJn := Lib.hid hjt
          clear hjt
          go_wp2
          go_round
          case rel => exact ⟨k + 1, by omega, by go_num, by rw [HJn.out]; rfl⟩
          case measure => simp [intOf]; omega
        · have dq : decide (0 < q) = true := decide_eq_true (by omega)
          have hq1 : 0 < q := by omega
          rw [if_neg hq] at hjt
          have HJn := Lib.hid hjt
          clear hjt
          go_wp2
          go_round
          case rel => exact ⟨k + 1, by omega, by go_num, by rw [HJn.out]; go_num⟩
          case measure => simp [intOf]; omega
      · have dk : decide ((k : Int) < (n : Int)) = false := decide_eq_false (by omega)
        have hk1 : ¬ (k : Int) < (n : Int) := by omega
        have hkn2 : n = k := by omega
        subst hkn2
        rw [← HJN.out] at hjl ⊢
        have HBx := Lib.hid (box_next HB1.out HPR.out.fr)
        obtain ⟨c0, c1, c2, c3, c4, c5, c6, c7, r3, hyr, hs2⟩ := HBF.out _ HBx
        by_cases hj : 0 < jobsN p ∧ mk = 0
        · obtain ⟨hj1, rfl⟩ := hj
          have dj : decide ((0 : Int) < (jobsN p : Int)) = true := decide_eq_true (by omega)
          have HVe : Hid (V = ([], 10)) := by show _ = _; rw [HV.out, if_pos ⟨hj1, HPs.out⟩]
          go_wp2
          go_ret2
          rw [HVe.out]
          exact plan_none 10 (box_b HBx.out)
        · have HVe : Hid (V = finV (planTo p (2 * n + 1) (ps0 n))) := by show _ = _; rw [HV.out, if_neg (by rw [HPs.out]; exact hj), HPn.out]
          obtain ⟨R, hR⟩ : ∃ R, Hid (planTo p (2 * n + 1) (ps0 n) = R) := ⟨_, rfl⟩
          rw [hR.out] at HVe
          have HM0 : Hid (meas p (ps0 n) < 2 * n + 1) := by
            have h1 := meas_ps0 p
            have h2 := jobsN_le p
            rw [HPn.out] at h1 h2
            show _ < _
            omega
          have HL0 : Hid (left p (ps0 n) = jobsN p) := by have := left_ps0 p; rw [HPn.out] at this; exact this
          have HW0 : Hid (PW p 109951162777600099 (ps0 n)) := by have := PW.start p 109951162777600099; rw [HPn.out] at this; exact this
          have HJle : Hid (jobsN p ≤ 20) := by have := jobsN_le p; have := HPn.out; show _ ≤ _; omega
          by_cases hjz : 0 < jobsN p
          · have dj : decide ((0 : Int) < (jobsN p : Int)) = true := decide_eq_true (by omega)
            have hmk0 : ¬ mk = 0 := fun e => hj ⟨hjz, e⟩
            have dmk : (mk == 0) = false := beq_eq_false_iff_ne.2 hmk0
            go_wp2
            go_loopg [14, 16] (2 * n + 1) (fun gk v14 v16 wr => ∃ S : PS, v14 = .int .i64 (left p S : Int) ∧ v16 = .int .i64 S.now ∧ Hid (planTo p gk S = R) ∧ Hid (meas p S < gk) ∧ Hid (PW p 109951162777600099 S) ∧ Hid (PR w1 n w1.heap.size (w1.heap.size + 1) S.out S.beg wr))
            case atStart => exact ⟨ps0 n, by rw [HL0.out], rfl, hR.out, HM0.out, HW0.out, HPR.out⟩
            case round =>
              clear c0 c1 c2 c3 c4 c5 c6 c7 r3 hyr hs2 HPR HBx
              obtain ⟨S, rfl, rfl, HPL, HME, HW, HP⟩ := hrel
              obtain ⟨Gn, hGn⟩ : ∃ Gn, Hid (gk = Gn + 1) := ⟨gk - 1, by have := HME.out; show _ = _; omega⟩
              have HST : Hid (R = if left p S = 0 then some S.out else match nextR p S with | some k => if (doing p S : Int) < p.sl then planTo p Gn (begin1 p S k) else if thenTo S p.n = 0 then none else planTo p Gn (later p S) | none => if thenTo S p.n = 0 then none else planTo p Gn (later p S)) := by
                show _ = _
                rw [← HPL.out, hGn.out, planTo]
                cases nextR p S <;> rfl
              have hll := jobsN_left (p := p) (S := S)
              have hjl2 := HJle.out
              have hln : left p S ≤ 20 := by omega
              by_cases hz : left p S = 0
              · have HRs : Hid (R = some S.out) := by show _ = _; rw [HST.out, if_pos hz]
                have ez : (left p S : Int) = 0 := by omega
                rw [ez]
                clear ez hz
                go_wp2
                go_ret2
                rw [HVe.out, HRs.out]
                refine ⟨_, n, ?_, HP.out.stks, below2 (box_b HB1.out) HP.out.fr⟩
                show _ = Ending.returned (.tuple #[.slice _ S.out.length n, .int .i64 0])
                rw [HP.out.ol]
                rfl
              · obtain ⟨LP, hLP⟩ : ∃ LP : Int, Hid ((left p S : Int) = LP) := ⟨_, rfl⟩
                have hz2 : (0 : Int) < LP := by have := hLP.out; omega
                have dz : decide ((0 : Int) < LP) = true := decide_eq_true hz2
                have hLP20 : LP ≤ 20 := by have := hLP.out; omega
                rw [hLP.out]
                clear hll hln
                have HS1 : Hid (R = match nextR p S with | some k => if (doing p S : Int) < p.sl then planTo p Gn (begin1 p S k) else if thenTo S p.n = 0 then none else planTo p Gn (later p S) | none => if thenTo S p.n = 0 then none else planTo p Gn (later p S)) := by show _ = _; rw [HST.out, if_neg hz]
                clear HST hz
                have hn20 : (n : Int) ≤ 20 := by omega
                have en1 : IntKind.i64.wrap ((n : Int) - 1) = (n : Int) - 1 := by rw [IntKind.wrap_i64]; omega
                go_wp2
                go_loopw [17, 18, 19] (fun v17 v18 v19 wk => ∃ i : Nat, i ≤ n ∧ v19 = .int .i64 ((n : Int) - 1 - (i : Int)) ∧ v17 = .int .i64 (dn p S i : Int) ∧ v18 = .int .i64 (nx p S i) ∧ Hid (PR w1 n w1.heap.size (w1.heap.size + 1) S.out S.beg wk)) (fun _ _ v19 _ => (intOf v19 + 1).toNat)
                case atStart => exact ⟨0, Nat.zero_le _, by go_num, rfl, rfl, HP.out⟩
                case round =>
                  clear HP
                  obtain ⟨i, hi, rfl, rfl, rfl, HP⟩ := hrel
                  by_cases hin : i < n
                  · obtain ⟨kk, hkk2⟩ : ∃ kk : Nat, kk + 1 + i = n := ⟨n - 1 - i, by omega⟩
                    have ekk : (n : Int) - 1 - (i : Int) = (kk : Int) := by omega
                    rw [ekk]
                    have hkk : kk < n := by omega
                    have ekk2 : Hid (p.n - 1 - i = kk) := by have := HPn.out; show _ = _; omega
                    have dk : decide ((0 : Int) ≤ (kk : Int)) = true := decide_eq_true (by omega)
                    have hk0 : (0 : Int) ≤ (kk : Int) := by omega
                    have hk1 : (kk : Int) < (n : Int) := by omega
                    have hk20 : (kk : Int) ≤ 20 := by omega
                    have HDS : Hid (dn p S (i + 1) = dn p S i + if isD S kk then 1 else 0) := by show _ = _; rw [dn, ekk2.out]
                    have HNS : Hid (nx p S (i + 1) = if isR p S kk then (kk : Int) else nx p S i) := by show _ = _; rw [nx, ekk2.out]
                    have hdl := dn_le p S i
                    replace ekk := Lib.hid ekk
                    obtain ⟨o0, o1, o2, -, -, -⟩ := HP.out.cells hkk
                    have hlo := HP.out.lto
                    have hlb := HP.out.ltb
                    obtain ⟨rb, ro, rfl, hrl, hrc⟩ := HA.out kk (by rw [HLl.out]; exact hkk)
                    have HBk := Lib.hid (box_next HB1.out HP.out.fr)
                    have x0 := ((box_b HBk.out).cell (p := ⟨rb, ro + kk, none⟩) hrl).trans hrc
                    have hrs := Nat.lt_of_lt_of_le hrl (box_b HBk.out).size
                    have HPk := Lib.hid (HPr.out kk)
                    have hq0 := HRn.out kk hkk
                    have HIT : Hid (isT p S kk = (p.run kk && !isB S kk)) := rfl
                    have HID : Hid (isD S kk = (isB S kk && decide (S.now < endOf S kk))) := rfl
                    have HRT : Hid (isT p S kk = false → isR p S kk = false) := fun h => by unfold isR; rw [h]; rfl
                    obtain ⟨ek, hek⟩ : ∃ ek, endOf S kk = ek := ⟨_, rfl⟩
                    rw [show (S.out.getD kk (0, 0)).2 = ek from hek] at o1
                    rw [hek] at HID
                    clear hrc
                    generalize l.getD kk 0 = q at *
                    cases hb : isB S kk with
                    | true =>
                      rw [show S.beg.getD kk false = true from hb] at o2
                      rw [hb, Bool.true_and] at HID
                      rw [hb, Bool.not_true, Bool.and_false] at HIT
                      have HRf : Hid (isR p S kk = false) := HRT.out HIT.out
                      have HNx : Hid (nx p S (i + 1) = nx p S i) := by show _ = _; rw [HNS.out, HRf.out]; rfl
                      have hq : q ≠ 0 := by
                        have h2 := HW.out.run kk hb
                        rw [HPk.out] at h2
                        simpa using h2
                      have dq : decide (0 < q) = true := decide_eq_true (by omega)
                      have hq1 : 0 < q := by omega
                      by_cases hd : S.now < ek
                      · have dd : decide (S.now < ek) = true := decide_eq_true hd
                        have HDn : Hid (dn p S (i + 1) = dn p S i + 1) := by show _ = _; rw [HDS.out, HID.out, dd]; rfl
                        go_wp2
                        go_loopw [20, 21] (fun v20 v21 wx => v20 = .bool false ∧ v21 = .int .i64 0 ∧ Hid (PR w1 n w1.heap.size (w1.heap.size + 1) S.out S.beg wx)) (fun _ _ _ => 0)
                        case atStart => exact ⟨rfl, rfl, HP.out⟩
                        case round =>
                          obtain ⟨rfl, rfl, HPx⟩ := hrel
                          go_wp2
                          go_roundw
                          case rel => exact ⟨i + 1, by omega, by rw [show ((n : Int) - 1 - ((i + 1 : Nat) : Int)) = (kk : Int) - 1 by have := ekk.out; omega], by first | (rw [HDn.out]; done) | (rw [HDn.out]; go_num), by rw [HNx.out], HPx.out⟩
                          case measure => simp [intOf] <;> omega
                      · have dd : decide (S.now < ek) = false := decide_eq_false hd
                        have HDn : Hid (dn p S (i + 1) = dn p S i) := by show _ = _; rw [HDS.out, HID.out, dd]; rfl
                        go_wp2
                        go_loopw [20, 21] (fun v20 v21 wx => v20 = .bool false ∧ v21 = .int .i64 0 ∧ Hid (PR w1 n w1.heap.size (w1.heap.size + 1) S.out S.beg wx)) (fun _ _ _ => 0)
                        case atStart => exact ⟨rfl, rfl, HP.out⟩
                        case round =>
                          obtain ⟨rfl, rfl, HPx⟩ := hrel
                          go_wp2
                          go_roundw
                          case rel => exact ⟨i + 1, by omega, by rw [show ((n : Int) - 1 - ((i + 1 : Nat) : Int)) = (kk : Int) - 1 by have := ekk.out; omega], by first | (rw [HDn.out]; done) | (rw [HDn.out]; go_num), by rw [HNx.out], HPx.out⟩
                          case measure => simp [intOf] <;> omega
                    | false =>
                      rw [show S.beg.getD kk false = false from hb] at o2
                      rw [hb, Bool.false_and] at HID
                      have HDn : Hid (dn p S (i + 1) = dn p S i) := by show _ = _; rw [HDS.out, HID.out]; rfl
                      by_cases hq : 0 < q
                      · have dq : decide (0 < q) = true := decide_eq_true hq
                        have hrn : p.run kk = true := by rw [HPk.out, decide_eq_false (by omega)]; rfl
                        rw [hb, hrn] at HIT
                        have HK0 : Hid (okTo p S kk 0 = true) := by show _ = _; unfold okTo; rw [HIT.out]; rfl
                        have HKS : Hid (∀ x, okTo p S kk (x + 1) = (okTo p S kk x && (!p.wt kk x || isO S x))) := fun x => okTo_succ p S kk x
                        have HKN : Hid (∀ x, x ≤ n → okTo p S kk x = false → isR p S kk = false) := fun x hx h => by rw [← okTo_all, HPn.out]; exact okTo_no h n hx
                        have HKA : Hid (okTo p S kk n = isR p S kk) := by show _ = _; rw [← okTo_all, HPn.out]
                        generalize okTo p S kk = OK at *
                        go_wp2
                        go_loopw [20, 21] (fun v20 v21 wx => ∃ x : Nat, x ≤ n ∧ v21 = .int .i64 (x : Int) ∧ v20 = .bool (OK x) ∧ Hid (PR w1 n w1.heap.size (w1.heap.size + 1) S.out S.beg wx)) (fun _ v21 _ => n - (intOf v21).toNat)
                        case atStart => exact ⟨0, Nat.zero_le _, rfl, by rw [HK0.out], HP.out⟩
                        case round =>
                          obtain ⟨x, hx, rfl, rfl, HPx⟩ := hrel
                          by_cases hxn : x < n
                          · have dx : decide ((x : Int) < (n : Int)) = true := decide_eq_true (by omega)
                            have hx0 : (0 : Int) ≤ (x : Int) := by omega
                            have hx1 : (x : Int) < (n : Int) := by omega
                            have hx20 : (x : Int) ≤ 20 := by omega
                            have HKx := Lib.hid (HKS.out x)
                            have HKn := Lib.hid (HKN.out x hx)
                            generalize OK x = rd at *
                            cases rd with
                            | false =>
                              have HRf : Hid (isR p S kk = false) := HKn.out rfl
                              have HNx : Hid (nx p S (i + 1) = nx p S i) := by show _ = _; rw [HNS.out, HRf.out]; rfl
                              go_wp2
                              go_roundw
                              case rel => exact ⟨i + 1, by omega, by rw [show ((n : Int) - 1 - ((i + 1 : Nat) : Int)) = (kk : Int) - 1 by have := ekk.out; omega], by first | (rw [HDn.out]; done) | (rw [HDn.out]; go_num), by rw [HNx.out], HPx.out⟩
                              case measure => simp [intOf] <;> omega
                            | true =>
                              have HBx := Lib.hid (box_next HB1.out HPx.out.fr)
                              obtain ⟨c0, c1, c2, c3, c4, c5, c6, c7, r3, hyr, hs2⟩ := HBF.out _ HBx
                              have CWx := Lib.hid (fun W h => CW.out W kk x hkk hxn h)
                              have HBo := Lib.hid (isO_of S x)
                              generalize p.wt kk x = wtx at *
                              generalize isO S x = ox at *
                              cases wtx with
                              | false =>
                                have HK2 : Hid (OK (x + 1) = true) := by show _ = _; rw [HKx.out]; rfl
                                clear HBo
                                go_wp2_with (go_at_call 32; (with_reducible refine (CWx.out _ (box_b HBx.out)).mono ?_); rintro e w3 ⟨rfl, hb3⟩; have HP3 := Lib.hid (HPx.out.below hb3))
                                go_roundw
                                case rel => exact ⟨x + 1, by omega, by go_num, by rw [HK2.out], HP3.out⟩
                                case measure => simp [intOf] <;> omega
                              | true =>
                                rw [Bool.true_and, Bool.not_true, Bool.false_or] at HKx
                                have HBb := Lib.hid (HBo.out)
                                clear HBo
                                cases hbx : isB S x with
                                | false =>
                                  rw [hbx] at HBb
                                  have HK2 : Hid (OK (x + 1) = false) := by show _ = _; rw [HKx.out, HBb.out]; rfl
                                  go_wp2_with (go_at_call 32; (with_reducible refine (CWx.out _ (box_b HBx.out)).mono ?_); rintro e w3 ⟨rfl, hb3⟩; have HP3 := Lib.hid (HPx.out.below hb3); obtain ⟨o0, o1, o2, -, -, -⟩ := HP3.out.cells hxn; rw [show S.beg.getD x false = false from hbx] at o2; have hlo := HP3.out.lto; have hlb := HP3.out.ltb)
                                  go_roundw
                                  case rel => exact ⟨x + 1, by omega, by go_num, by rw [HK2.out], HP3.out⟩
                                  case measure => simp [intOf] <;> omega
                                | true =>
                                  rw [hbx, Bool.true_and] at HBb
                                  by_cases he : endOf S x ≤ S.now
                                  · have de : decide (endOf S x ≤ S.now) = true := decide_eq_true he
                                    have HK2 : Hid (OK (x + 1) = true) := by show _ = _; rw [HKx.out, HBb.out, de]
                                    obtain ⟨ex, hex⟩ : ∃ ex, endOf S x = ex := ⟨_, rfl⟩
                                    rw [hex] at de he
                                    go_wp2_with (go_at_call 32; (with_reducible refine (CWx.out _ (box_b HBx.out)).mono ?_); rintro e w3 ⟨rfl, hb3⟩; have HP3 := Lib.hid (HPx.out.below hb3); obtain ⟨o0, o1, o2, -, -, -⟩ := HP3.out.cells hxn; rw [show S.beg.getD x false = true from hbx] at o2; rw [show (S.out.getD x (0, 0)).2 = ex from hex] at o1; have hlo := HP3.out.lto; have hlb := HP3.out.ltb)
                                    go_roundw
                                    case rel => exact ⟨x + 1, by omega, by go_num, by rw [HK2.out], HP3.out⟩
                                    case measure => simp [intOf] <;> omega
                                  · have de : decide (endOf S x ≤ S.now) = false := decide_eq_false he
                                    have HK2 : Hid (OK (x + 1) = false) := by show _ = _; rw [HKx.out, HBb.out, de]
                                    obtain ⟨ex, hex⟩ : ∃ ex, endOf S x = ex := ⟨_, rfl⟩
                                    rw [hex] at de he
                                    go_wp2_with (go_at_call 32; (with_reducible refine (CWx.out _ (box_b HBx.out)).mono ?_); rintro e w3 ⟨rfl, hb3⟩; have HP3 := Lib.hid (HPx.out.below hb3); obtain ⟨o0, o1, o2, -, -, -⟩ := HP3.out.cells hxn; rw [show S.beg.getD x false = true from hbx] at o2; rw [show (S.out.getD x (0, 0)).2 = ex from hex] at o1; have hlo := HP3.out.lto; have hlb := HP3.out.ltb)
                                    go_roundw
                                    case rel => exact ⟨x + 1, by omega, by go_num, by rw [HK2.out], HP3.out⟩
                                    case measure => simp [intOf] <;> omega
                          · have dx : decide ((x : Int) < (n : Int)) = false := decide_eq_false (by omega)
                            have hx1 : ¬ (x : Int) < (n : Int) := by omega
                            have hxe : n = x := by omega
                            subst hxe
                            have HKa := Lib.hid HKA.out
                            generalize OK n = rd at *
                            cases rd with
                            | true =>
                              have HNx : Hid (nx p S (i + 1) = (kk : Int)) := by show _ = _; rw [HNS.out, ← HKa.out]; rfl
                              go_wp2
                              go_roundw
                              case rel => exact ⟨i + 1, by omega, by rw [show ((n : Int) - 1 - ((i + 1 : Nat) : Int)) = (kk : Int) - 1 by have := ekk.out; omega], by first | (rw [HDn.out]; done) | (rw [HDn.out]; go_num), by rw [HNx.out], HPx.out⟩
                              case measure => simp [intOf] <;> omega
                            | false =>
                              have HNx : Hid (nx p S (i + 1) = nx p S i) := by show _ = _; rw [HNS.out, ← HKa.out]; rfl
                              go_wp2
                              go_roundw
                              case rel => exact ⟨i + 1, by omega, by rw [show ((n : Int) - 1 - ((i + 1 : Nat) : Int)) = (kk : Int) - 1 by have := ekk.out; omega], by first | (rw [HDn.out]; done) | (rw [HDn.out]; go_num), by rw [HNx.out], HPx.out⟩
                              case measure => simp [intOf] <;> omega
                      · have dq : decide (0 < q) = false := decide_eq_false hq
                        have hrn : p.run kk = false := by rw [HPk.out, decide_eq_true (by omega)]; rfl
                        rw [hrn, Bool.false_and] at HIT
                        have HRf : Hid (isR p S kk = false) := HRT.out HIT.out
                        have HNx : Hid (nx p S (i + 1) = nx p S i) := by show _ = _; rw [HNS.out, HRf.out]; rfl
                        go_wp2
                        go_loopw [20, 21] (fun v20 v21 wx => v20 = .bool false ∧ v21 = .int .i64 0 ∧ Hid (PR w1 n w1.heap.size (w1.heap.size + 1) S.out S.beg wx)) (fun _ _ _ => 0)
                        case atStart => exact ⟨rfl, rfl, HP.out⟩
                        case round =>
                          obtain ⟨rfl, rfl, HPx⟩ := hrel
                          go_wp2
                          go_roundw
                          case rel => exact ⟨i + 1, by omega, by rw [show ((n : Int) - 1 - ((i + 1 : Nat) : Int)) = (kk : Int) - 1 by have := ekk.out; omega], by first | (rw [HDn.out]; done) | (rw [HDn.out]; go_num), by rw [HNx.out], HPx.out⟩
                          case measure => simp [intOf] <;> omega
                  · have hie : n = i := by omega
                    subst hie
                    rw [show (n : Int) - 1 - (n : Int) = -1 by omega]
                    have HDa : Hid (dn p S n = doing p S) := by have := dn_all p S; rw [HPn.out] at this; exact this
                    have HNa := nx_all p S
                    rw [HPn.out] at HNa
                    rw [HDa.out]
                    have hdl : doing p S ≤ n := HDa.out ▸ dn_le p S n
                    have HBk := Lib.hid (box_next HB1.out HP.out.fr)
                    obtain ⟨c0, c1, c2, c3, c4, c5, c6, c7, r3, hyr, hs2⟩ := HBF.out _ HBk
                    cases hnx : nextR p S with
                    | none =>
                      rw [hnx] at HNa
                      rw [HNa]
                      have HS2 : Hid (R = if thenTo S p.n = 0 then none else planTo p Gn (later p S)) := by show _ = _; rw [HS1.out, hnx]
                      clear HNa hnx HS1
                      go_wp2
                      go_loopw [22, 23] (fun v22 v23 wt => ∃ x : Nat, x ≤ n ∧ v23 = .int .i64 (x : Int) ∧ v22 = .int .i64 (thenTo S x) ∧ Hid (PR w1 n w1.heap.size (w1.heap.size + 1) S.out S.beg wt)) (fun _ v23 _ => n - (intOf v23).toNat)
                      case atStart => exact ⟨0, Nat.zero_le _, rfl, rfl, HP.out⟩
                      case round =>
                        clear HP
                        obtain ⟨x, hx, rfl, rfl, HP⟩ := hrel
                        by_cases hxn : x < n
                        · have dx : decide ((x : Int) < (n : Int)) = true := decide_eq_true (by omega)
                          have hx0 : (0 : Int) ≤ (x : Int) := by omega
                          have hx1 : (x : Int) < (n : Int) := by omega
                          have hx20 : (x : Int) ≤ 20 := by omega
                          obtain ⟨o0, o1, o2, -, -, -⟩ := HP.out.cells hxn
                          have hlo := HP.out.lto
                          have hlb := HP.out.ltb
                          have HTH : Hid (thenTo S (x + 1) = if (isB S x && decide (S.now < endOf S x)) && (decide (thenTo S x = 0) || decide (endOf S x < thenTo S x)) then endOf S x else thenTo S x) := rfl
                          obtain ⟨ek, hek⟩ : ∃ ek, endOf S x = ek := ⟨_, rfl⟩
                          rw [show (S.out.getD x (0, 0)).2 = ek from hek] at o1
                          rw [hek] at HTH
                          replace hek := Lib.hid hek
                          generalize thenTo S x = tx at *
                          cases hb : isB S x with
                          | false =>
                            rw [show S.beg.getD x false = false from hb] at o2
                            have HTn : Hid (thenTo S (x + 1) = tx) := by show _ = _; rw [HTH.out, hb]; rfl
                            go_wp2
                            go_roundw
                            case rel => exact ⟨x + 1, by omega, by go_num, by rw [HTn.out], HP.out⟩
                            case measure => simp [intOf] <;> omega
                          | true =>
                            rw [show S.beg.getD x false = true from hb] at o2
                            by_cases hd : S.now < ek
                            · have dd : decide (S.now < ek) = true := decide_eq_true hd
                              by_cases ht : tx = 0
                              · have dt : (tx == 0) = true := beq_iff_eq.2 ht
                                have HTn : Hid (thenTo S (x + 1) = ek) := by show _ = _; rw [HTH.out, hb, dd, decide_eq_true ht]; rfl
                                subst ht
                                go_wp2
                                go_roundw
                                case rel => exact ⟨x + 1, by omega, by go_num, by rw [HTn.out], HP.out⟩
                                case measure => simp [intOf] <;> omega
                              · have dt : (tx == 0) = false := beq_eq_false_iff_ne.2 ht
                                by_cases hl2 : ek < tx
                                · have dl : decide (ek < tx) = true := decide_eq_true hl2
                                  have HTn : Hid (thenTo S (x + 1) = ek) := by show _ = _; rw [HTH.out, hb, dd, decide_eq_false ht, dl]; rfl
                                  go_wp2
                                  go_roundw
                                  case rel => exact ⟨x + 1, by omega, by go_num, by rw [HTn.out], HP.out⟩
                                  case measure => simp [intOf] <;> omega
                                · have dl : decide (ek < tx) = false := decide_eq_false hl2
                                  have HTn : Hid (thenTo S (x + 1) = tx) := by show _ = _; rw [HTH.out, hb, dd, decide_eq_false ht, dl]; rfl
                                  go_wp2
                                  go_roundw
                                  case rel => exact ⟨x + 1, by omega, by go_num, by rw [HTn.out], HP.out⟩
                                  case measure => simp [intOf] <;> omega
                            · have dd : decide (S.now < ek) = false := decide_eq_false hd
                              have HTn : Hid (thenTo S (x + 1) = tx) := by show _ = _; rw [HTH.out, hb, dd]; rfl
                              go_wp2
                              go_roundw
                              case rel => exact ⟨x + 1, by omega, by go_num, by rw [HTn.out], HP.out⟩
                              case measure => simp [intOf] <;> omega
                        · have dx : decide ((x : Int) < (n : Int)) = false := decide_eq_false (by omega)
                          have hx1 : ¬ (x : Int) < (n : Int) := by omega
                          have hxe : n = x := by omega
                          subst hxe
                          have HTN : Hid (thenTo S p.n = thenTo S n) := by show _ = _; rw [HPn.out]
                          have HLt : Hid (thenTo S n ≠ 0 → meas p (later p S) < meas p S) := fun h => meas_later HW.out.now0 (by rw [HTN.out]; exact h)
                          have HLn : Hid ((later p S).now = thenTo S n) := HTN.out
                          rw [HTN.out] at HS2
                          generalize thenTo S n = tn at *
                          by_cases ht : tn = 0
                          · subst ht
                            have HRs : Hid (R = none) := by show _ = _; rw [HS2.out]; rfl
                            go_wp2
                            go_ret2
                            rw [HVe.out, HRs.out]
                            exact plan_none 9 (below2 (box_b HB1.out) HP.out.fr)
                          · have dt : (tn == 0) = false := beq_eq_false_iff_ne.2 ht
                            have HRs : Hid (planTo p Gn (later p S) = R) := by show _ = _; rw [HS2.out, if_neg ht]
                            have HMn : Hid (meas p (later p S) < Gn) := by have := HLt.out ht; have := HME.out; have := hGn.out; show _ < _; omega
                            go_wp2
                            go_roundg Gn
                            case measure => have := hGn.out; omega
                            case rel => exact ⟨later p S, by rw [← hLP.out]; rfl, by rw [HLn.out], HRs.out, HMn.out, HW.out.later, HP.out⟩
                    | some kk =>
                      rw [hnx] at HNa
                      dsimp only at HNa
                      rw [HNa]
                      obtain ⟨hkk, hkr⟩ := find_lt hnx
                      rw [HPn.out] at hkk
                      have HRk := Lib.hid hkr
                      have hk0 : (0 : Int) ≤ (kk : Int) := Int.natCast_nonneg kk
                      have hk1 : (kk : Int) < (n : Int) := by omega
                      have hk20 : (kk : Int) ≤ 20 := by omega
                      have dk0 : decide ((0 : Int) ≤ (kk : Int)) = true := decide_eq_true hk0
                      clear HNa hkr
                      by_cases hdm : (doing p S : Int) < mk
                      · have HS2 : Hid (R = planTo p Gn (begin1 p S kk)) := by show _ = _; rw [HS1.out, hnx]; dsimp only; rw [HPs.out, if_pos hdm]
                        have HTk := Lib.hid (isR_isT HRk.out)
                        have HMl : Hid (meas p (begin1 p S kk) < Gn) := by
                          have h1 := meas_begin (p := p) (S := S) (k := kk) (by rw [HPn.out]; exact hkk) (by rw [HW.out.lb, HPn.out]; exact hkk) (by rw [HW.out.lo, HPn.out]; exact hkk) HTk.out
                          have := HME.out
                          have := hGn.out
                          show _ < _
                          omega
                        have HWn := Lib.hid (HW.out.begin HPb.out HPt.out (by rw [HPn.out]; exact hkk) HTk.out)
                        have HLn : Hid ((left p (begin1 p S kk) : Int) = LP - 1) := by
                          have h1 := left_begin (p := p) (S := S) (k := kk) (by rw [HPn.out]; exact hkk) (by rw [HW.out.lb, HPn.out]; exact hkk) HTk.out
                          have := hLP.out
                          show _ = _
                          omega
                        have hnow : 0 ≤ S.now ∧ S.now ≤ 2199023255552001980 := by
                          have h1 := HW.out.now1
                          have h2 := HW.out.now0
                          have h3 := HJle.out
                          omega
                        obtain ⟨htm0, htm1⟩ := HPb.out kk
                        have CTk := Lib.hid (fun W h => CT.out W kk hkk h)
                        obtain ⟨tk, htk⟩ : ∃ tk, p.tm kk = tk := ⟨_, rfl⟩
                        have HTk2 : Hid (p.tm kk = tk) := htk
                        rw [htk] at htm0 htm1 CTk
                        obtain ⟨nw, hnw⟩ : ∃ nw, S.now = nw := ⟨_, rfl⟩
                        have HNw : Hid (S.now = nw) := hnw
                        rw [hnw] at hnow ⊢
                        have es : IntKind.i64.wrap (nw + tk) = nw + tk := by rw [IntKind.wrap_i64]; omega
                        have eL : IntKind.i64.wrap (LP - 1) = LP - 1 := by rw [IntKind.wrap_i64]; omega
                        have dd : decide ((doing p S : Int) < mk) = true := decide_eq_true hdm
                        obtain ⟨dv, hdv⟩ : ∃ dv : Int, Hid ((doing p S : Int) = dv) := ⟨_, rfl⟩
                        rw [hdv.out] at dd hdm ⊢
                        clear htk hnw hdl
                        go_wp2_with (go_at_call 33; (with_reducible refine (CTk.out _ (box_b HBk.out)).mono ?_); rintro e w3 ⟨rfl, hb3⟩; have HP3 := Lib.hid (HP.out.below hb3); obtain ⟨o0, o1, o2, f0, f1, f2⟩ := HP3.out.cells hkk; have hlo := HP3.out.lto; have hlb := HP3.out.ltb; have HP5 := Lib.hid ((HP3.out.setO hkk nw (nw + tk)).setB hkk true))
                        go_roundg Gn
                        case measure => have := hGn.out; omega
                        case rel => exact ⟨begin1 p S kk, by rw [HLn.out], by rw [← HNw.out]; rfl, HS2.out.symm, HMl.out, HWn.out, by unfold begin1; dsimp only; rw [HTk2.out, HNw.out]; exact HP5.out⟩
                      · have HS2 : Hid (R = if thenTo S p.n = 0 then none else planTo p Gn (later p S)) := by show _ = _; rw [HS1.out, hnx]; dsimp only; rw [HPs.out, if_neg hdm]
                        have dd : decide ((doing p S : Int) < mk) = false := decide_eq_false hdm
                        obtain ⟨dv, hdv⟩ : ∃ dv : Int, Hid ((doing p S : Int) = dv) := ⟨_, rfl⟩
                        rw [hdv.out] at dd hdm ⊢
                        clear hdl hnx HS1
                        go_wp2
                        go_loopw [22, 23] (fun v22 v23 wt => ∃ x : Nat, x ≤ n ∧ v23 = .int .i64 (x : Int) ∧ v22 = .int .i64 (thenTo S x) ∧ Hid (PR w1 n w1.heap.size (w1.heap.size + 1) S.out S.beg wt)) (fun _ v23 _ => n - (intOf v23).toNat)
                        case atStart => exact ⟨0, Nat.zero_le _, rfl, rfl, HP.out⟩
                        case round =>
                          clear HP
                          obtain ⟨x, hx, rfl, rfl, HP⟩ := hrel
                          by_cases hxn : x < n
                          · have dx : decide ((x : Int) < (n : Int)) = true := decide_eq_true (by omega)
                            have hx0 : (0 : Int) ≤ (x : Int) := by omega
                            have hx1 : (x : Int) < (n : Int) := by omega
                            have hx20 : (x : Int) ≤ 20 := by omega
                            obtain ⟨o0, o1, o2, -, -, -⟩ := HP.out.cells hxn
                            have hlo := HP.out.lto
                            have hlb := HP.out.ltb
                            have HTH : Hid (thenTo S (x + 1) = if (isB S x && decide (S.now < endOf S x)) && (decide (thenTo S x = 0) || decide (endOf S x < thenTo S x)) then endOf S x else thenTo S x) := rfl
                            obtain ⟨ek, hek⟩ : ∃ ek, endOf S x = ek := ⟨_, rfl⟩
                            rw [show (S.out.getD x (0, 0)).2 = ek from hek] at o1
                            rw [hek] at HTH
                            replace hek := Lib.hid hek
                            generalize thenTo S x = tx at *
                            cases hb : isB S x with
                            | false =>
                              rw [show S.beg.getD x false = false from hb] at o2
                              have HTn : Hid (thenTo S (x + 1) = tx) := by show _ = _; rw [HTH.out, hb]; rfl
                              go_wp2
                              go_roundw
                              case rel => exact ⟨x + 1, by omega, by go_num, by rw [HTn.out], HP.out⟩
                              case measure => simp [intOf] <;> omega
                            | true =>
                              rw [show S.beg.getD x false = true from hb] at o2
                              by_cases hd : S.now < ek
                              · have dd : decide (S.now < ek) = true := decide_eq_true hd
                                by_cases ht : tx = 0
                                · have dt : (tx == 0) = true := beq_iff_eq.2 ht
                                  have HTn : Hid (thenTo S (x + 1) = ek) := by show _ = _; rw [HTH.out, hb, dd, decide_eq_true ht]; rfl
                                  subst ht
                                  go_wp2
                                  go_roundw
                                  case rel => exact ⟨x + 1, by omega, by go_num, by rw [HTn.out], HP.out⟩
                                  case measure => simp [intOf] <;> omega
                                · have dt : (tx == 0) = false := beq_eq_false_iff_ne.2 ht
                                  by_cases hl2 : ek < tx
                                  · have dl : decide (ek < tx) = true := decide_eq_true hl2
                                    have HTn : Hid (thenTo S (x + 1) = ek) := by show _ = _; rw [HTH.out, hb, dd, decide_eq_false ht, dl]; rfl
                                    go_wp2
                                    go_roundw
                                    case rel => exact ⟨x + 1, by omega, by go_num, by rw [HTn.out], HP.out⟩
                                    case measure => simp [intOf] <;> omega
                                  · have dl : decide (ek < tx) = false := decide_eq_false hl2
                                    have HTn : Hid (thenTo S (x + 1) = tx) := by show _ = _; rw [HTH.out, hb, dd, decide_eq_false ht, dl]; rfl
                                    go_wp2
                                    go_roundw
                                    case rel => exact ⟨x + 1, by omega, by go_num, by rw [HTn.out], HP.out⟩
                                    case measure => simp [intOf] <;> omega
                              · have dd : decide (S.now < ek) = false := decide_eq_false hd
                                have HTn : Hid (thenTo S (x + 1) = tx) := by show _ = _; rw [HTH.out, hb, dd]; rfl
                                go_wp2
                                go_roundw
                                case rel => exact ⟨x + 1, by omega, by go_num, by rw [HTn.out], HP.out⟩
                                case measure => simp [intOf] <;> omega
                          · have dx : decide ((x : Int) < (n : Int)) = false := decide_eq_false (by omega)
                            have hx1 : ¬ (x : Int) < (n : Int) := by omega
                            have hxe : n = x := by omega
                            subst hxe
                            have HTN : Hid (thenTo S p.n = thenTo S n) := by show _ = _; rw [HPn.out]
                            have HLt : Hid (thenTo S n ≠ 0 → meas p (later p S) < meas p S) := fun h => meas_later HW.out.now0 (by rw [HTN.out]; exact h)
                            have HLn : Hid ((later p S).now = thenTo S n) := HTN.out
                            rw [HTN.out] at HS2
                            generalize thenTo S n = tn at *
                            by_cases ht : tn = 0
                            · subst ht
                              have HRs : Hid (R = none) := by show _ = _; rw [HS2.out]; rfl
                              go_wp2
                              go_ret2
                              rw [HVe.out, HRs.out]
                              exact plan_none 9 (below2 (box_b HB1.out) HP.out.fr)
                            · have dt : (tn == 0) = false := beq_eq_false_iff_ne.2 ht
                              have HRs : Hid (planTo p Gn (later p S) = R) := by show _ = _; rw [HS2.out, if_neg ht]
                              have HMn : Hid (meas p (later p S) < Gn) := by have := HLt.out ht; have := HME.out; have := hGn.out; show _ < _; omega
                              go_wp2
                              go_roundg Gn
                              case measure => have := hGn.out; omega
                              case rel => exact ⟨later p S, by rw [← hLP.out]; rfl, by rw [HLn.out], HRs.out, HMn.out, HW.out.later, HP.out⟩
          · have dj : decide ((0 : Int) < (jobsN p : Int)) = false := decide_eq_false (by omega)
            have hj0 : jobsN p = 0 := by omega
            have HRs : Hid (R = some (ps0 n).out) := by show _ = _; rw [← hR.out, planTo, if_pos (by rw [HL0.out]; exact hj0)]
            have hj00 : (jobsN p : Int) = 0 := by omega
            rw [hj00]
            clear hj00 hj0
            go_wp2
            go_loopw [14] (fun v14 wr => v14 = .int .i64 0 ∧ Hid (PR w1 n w1.heap.size (w1.heap.size + 1) (ps0 n).out (ps0 n).beg wr)) (fun _ _ => 0)
            case atStart => exact ⟨rfl, HPR.out⟩
            case round =>
              obtain ⟨rfl, HP⟩ := hrel
              go_wp2
              go_ret2
              rw [HVe.out, HRs.out]
              refine ⟨_, n, ?_, HP.out.stks, below2 (box_b HB1.out) HP.out.fr⟩
              show _ = Ending.returned (.tuple #[.slice _ (ps0 n).out.length n, .int .i64 0])
              rw [HP.out.ol]
              rfl
  · have HV : Hid (planV c bay l level = ([], mayV c bay l level)) := by
      show _ = _
      unfold planV
      rw [if_pos hm]
    rw [HV.out]
    have dm : (mayV c bay l level != 0) = true := bne_iff_ne.2 hm
    generalize mayV c bay l level = M at *
    clear hc ha HV
    unfold CatIn.val at *
    go_enter Try.func9, Try.ntmps9
    go_wp2_with (go_at_call 31; (with_reducible refine (CM.out _ (box_b HB0.out)).mono ?_); rintro e w1 ⟨rfl, hb1⟩)
    go_ret2
    exact plan_none M (below2 (box_b HB0.out) hb1)
end Quo
end Go.Proofs.Ytiabnjmblcogmaa
end
