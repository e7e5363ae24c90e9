/- Texts put together: TakI. -/
import Derived.Test.YtfincohdchnniaaBm
import Derived.Test.YtfincohdchnniaaBg
import Derived.Deep.QuietTactic
import Derived.Deep.CutBlock
import Derived.Deep.DeepCutAuto
import Derived.BigQuiet
set_option linter.all false
namespace Go.Proofs.Ytfincohdchnniaa
open Go.RowKit
namespace Cat
open Rec (BlueIn Stk Stks Came bchk inB stkVals stks_of_own stkVals_append)
open Pen (bs bs_append uintB uintS doneS below2 below_al below_dN uint_bounds)
def c7 (a b c d e f g : Value) (i : Nat) : Value := if i = 0 then a else if i = 1 then b else if i = 2 then c else if i = 3 then d else if i = 4 then e else if i = 5 then f else g
theorem TB.flat {T : TypeId} {Q : (Nat → Value) → Left → Prop} {w W : World} {g gc gb : Nat} {f fb : Nat → Value} {v u nv : Value} {l : List BlueIn} {ys : List BayIn} {ns : List Stk} {o : Left} (h : TB T Q w g gc gb f fb v u nv l ys ns o W) : TB T Q w g gc gb f (c7 (fb 0) (fb 1) (fb 2) (fb 3) (fb 4) (fb 5) (fb 6)) v u nv l ys ns o W := h.congr fun i hi => by
  match i, hi with
  | 0, _ => rfl
  | 1, _ => rfl
  | 2, _ => rfl
  | 3, _ => rfl
  | 4, _ => rfl
  | 5, _ => rfl
  | 6, _ => rfl
theorem srow (w : World) (a : Int) : (w.alloc (.cells #[.int .i64 a, .int .i64 0] 38)).rowIs w.heap.size 38 2 (fun i => if i = 0 then .int .i64 a else .int .i64 0) :=
  ⟨_, heap_alloc_new w _, rfl, fun i hi => by
    match i, hi with
    | 0, _ => rfl
    | 1, _ => rfl⟩
theorem brow (w : World) (a : Int) : (w.alloc (.cells #[.int .i64 a, .int .i64 0, .int .i64 0, .int .i64 0] 50)).rowIs w.heap.size 50 4 (fun i => if i = 0 then .int .i64 a else .int .i64 0) :=
  ⟨_, heap_alloc_new w _, rfl, fun i hi => by
    match i, hi with
    | 0, _ => rfl
    | 1, _ => rfl
    | 2, _ => rfl
    | 3, _ => rfl⟩
theorem TK.below {T : TypeId} {Q : (Nat → Value) → Left → Prop} {w W W' : World} {g gc : Nat} {f : Nat → Value} {v u : Value} {l : List BlueIn} {ys : List BayIn} {o : Left} (h : TK T Q w g gc f v u l ys o W) (hb : Below W.heap.size W W') : TK T Q w g gc f v u l ys o W' := by
  have hk : ∀ {e : TypeId} {size n : Nat} {v : Value} {xs : List Value}, W.ownsRow w.heap.size e size v n xs → W'.ownsRow w.heap.size e size v n xs := fun {e size n v xs} ho => ho.kept (row := none) (grw_below2 hb) (by cases hv : v.ownBlock <;> simp)
  exact ⟨h.rd.below hb, h.row.of_block (hb.block _ h.row.lt), hk h.ob, fun b hb => hk (h.on b hb), hk h.oy, h.res.of_block (hb.block _ h.res.lt), h.fr.trans (hb.mono h.fr.size), h.gg, h.ge⟩
theorem TK.at_ {T : TypeId} {Q : (Nat → Value) → Left → Prop} {w W : World} {g gc : Nat} {f : Nat → Value} {ba ya : Option Addr} {bc yc : Nat} {l : List BlueIn} {ys : List BayIn} {o : Left} (h : TK T Q w g gc f (.slice ba l.length bc) (.slice ya ys.length yc) l ys o W) : Blues W ba l ∧ Bays W ya ys ∧ ∀ i, i < l.length → Stks W (l.getD i nob).addr (l.getD i nob).needs := by
  obtain ⟨a1, a2, a3, a4, e1, e2, h1, h2, h3⟩ := lies_of h.ob h.on h.oy
  cases e1
  cases e2
  exact ⟨h1, h2, h3⟩
theorem rrNew2 {w : World} {b : Nat} (hb : w.heap.size = b) (s : ByteArray) (hs : s.size ≤ 1000000000) : Rd 70 QR (w.alloc (.cells #[.string s, .int .i64 0, .bool false] 70)) b (some s.data.toList) := by
  subst hb; exact rrNew s hs w
/-- The catalogue's cells are made. -/
theorem tk_new2 {w w1 : World} {n : Int} {o : Left} {b : Obj} (HR : Rd 70 QR w1 (w.heap.size + 1) o) (HG : ((w.alloc (.cells #[.int .i64 0, .slice none 0 0, .int .i64 0, .slice none 0 0, .int .i64 0, .int .i64 0, .int .i64 0, .int .i64 0] 27)).alloc b).grownBy w1 (some (w.heap.size + 1))) :
    TK 70 QR w (w.heap.size + 1) w1.heap.size (c8 (.int .i64 n) (.slice none 0 0) (.int .i64 0) (.slice none 0 0) (.int .i64 0) (.int .i64 0) (.int .i64 0) (.int .i64 0)) (.slice none 0 0) (.slice none 0 0) [] [] o (w1.alloc (.cells #[.int .i64 n, .slice none 0 0, .int .i64 0, .slice none 0 0, .int .i64 0, .int .i64 0, .int .i64 0, .int .i64 0] 27)) := by
  have hs2 := HG.size
  simp only [World.size_alloc] at hs2
  have hr2 := row_grown ((zc8 (w := w) rfl 0).alloc b) HG (fun e => by have := Option.some.inj e; omega)
  refine ⟨HR.alloc _, zc8 rfl n, World.ownsRow_nil _ _ _ _, (fun b hb => by cases hb), World.ownsRow_nil _ _ _ _, hr2.alloc _, ?_, by omega, by omega, by omega⟩
  refine below_al (below_grown (o := some (w.heap.size + 1)) (below_al (below_al (Below.refl w.heap.size w) _) b) HG ?_ fun k e => by cases e; omega) _
  simp; omega
set_option maxRecDepth 100000 in
set_option maxHeartbeats 16000000 in
theorem refTake_any (s : ByteArray) (hs : s.size ≤ 1000000000) (w : World) :
    Calls Try.prog 11 #[.string s] w fun e w' => ∃ c : CatIn, e = .returned (.tuple #[.agg c.val, .int .i64 (takeV s.data.toList).2]) ∧ Hid (flatC c = (takeV s.data.toList).1) ∧ Hid (Lies w' c) ∧ Hid (Below w.heap.size w w') := by
  have CU : Hid (∀ W g o most, Rd 70 QR W g o → Calls Try.prog 35 #[.pointer (some ⟨g, 0, none⟩), .int .i64 most] W (Rs 70 QR W g (uintS most o))) := fun W g o most h => rrU_any g o most W h
  have CI : Hid (∀ W g o, Rd 70 QR W g o → Calls Try.prog 35 #[.pointer (some ⟨g, 0, none⟩), .int .i64 9223372036854775807] W (Rs 70 QR W g (rdI o))) := fun W g o h => rrU_any g o _ W h
  have CD : Hid (∀ W g o, Rd 70 QR W g o → Calls Try.prog 36 #[.pointer (some ⟨g, 0, none⟩)] W fun e w' => e = .returned (.bool (doneS o)) ∧ Below W.heap.size W w') := fun W g o h => rrD_any g o W h
  have HRN := Lib.hid (rrNew2 (w := w.alloc (.cells #[.int .i64 0, .slice none 0 0, .int .i64 0, .slice none 0 0, .int .i64 0, .int .i64 0, .int .i64 0, .int .i64 0] 27)) (b := w.heap.size + 1) (by simp) s hs)
  obtain ⟨o0, h0⟩ : ∃ o0 : Left, Hid (some s.data.toList = o0) := ⟨_, rfl⟩
  obtain ⟨r1, h1⟩ : ∃ r, Hid (rdI o0 = r) := ⟨_, rfl⟩
  obtain ⟨q1, k1⟩ : ∃ r, Hid (uintS 16 r1.2 = r) := ⟨_, rfl⟩
  obtain ⟨BT, hBT⟩ : ∃ r, Hid (bluesT q1.1 q1.2 = r) := ⟨_, rfl⟩
  obtain ⟨r2, h2⟩ : ∃ r, Hid (rdI BT.2 = r) := ⟨_, rfl⟩
  obtain ⟨q2, k2⟩ : ∃ r, Hid (uintS 8 r2.2 = r) := ⟨_, rfl⟩
  obtain ⟨YT, hYT⟩ : ∃ r, Hid (baysT q2.1 q2.2 = r) := ⟨_, rfl⟩
  obtain ⟨r3, h3⟩ : ∃ r, Hid (rdI YT.2 = r) := ⟨_, rfl⟩
  obtain ⟨r4, h4⟩ : ∃ r, Hid (rdI r3.2 = r) := ⟨_, rfl⟩
  obtain ⟨r5, h5⟩ : ∃ r, Hid (rdI r4.2 = r) := ⟨_, rfl⟩
  obtain ⟨r6, h6⟩ : ∃ r, Hid (rdI r5.2 = r) := ⟨_, rfl⟩
  have HT : Hid (takeT o0 = (⟨r1.1, BT.1, none, 0, r2.1, YT.1, none, 0, r3.1, r4.1, r5.1, r6.1⟩, r6.2)) := by
    show _ = _
    simp only [takeT, takeT1, takeT2, h1.out, k1.out, hBT.out, h2.out, k2.out, hYT.out, h3.out, h4.out, h5.out, h6.out]
  have HV : Hid (takeV s.data.toList = if doneS r6.2 && decide (chkC (takeT o0).1 = 0) then ((takeT o0).1, 0) else (noc, 2)) := by
    show _ = _
    unfold takeV
    rw [h0.out, HT.out]
  obtain ⟨TV, hTV⟩ : ∃ r, Hid (takeV s.data.toList = r) := ⟨_, rfl⟩
  rw [hTV.out] at HV ⊢
  rw [h0.out] at HRN
  obtain ⟨n, hn, hn2⟩ := num_nat _ (uint_bounds 16 r1.2 (by decide)).1
  have hnm : n ≤ 16 := by have := (uint_bounds 16 r1.2 (by decide)).2.1; omega
  rw [k1.out] at hn hn2
  have HN1 : Hid (q1.1 = (n : Int)) := hn
  have HBTn : Hid (it stepB n ([], q1.2) = BT) := by show _ = _; rw [← hBT.out, ← hn2]; rfl
  have hni : (n : Int) ≤ 16 := by omega
  unfold Rs at *
  clear hs hn hn2
  go_enter Try.func11, Try.ntmps11
  go_upto_block 0 with (first
    | (go_at_call 35; (with_reducible refine (CI.out _ _ _ HRN.out).mono ?_); rintro e w1 ⟨rfl, HR1, HG1⟩; rw [h1.out] at HR1 ⊢; have TK1 := Lib.hid (tk_new2 (n := r1.1) HR1.out HG1.out))
    | (go_at_call 35; (with_reducible refine (CU.out _ _ _ 16 TK1.out.rd).mono ?_); rintro e w2 ⟨rfl, HR2, HG2⟩; rw [k1.out] at HR2 ⊢; have TK2 := Lib.hid (TK1.out.call HG2.out HR2.out (by decide) (by decide) (by decide)); rw [HN1.out]))
  obtain ⟨gc, hgc⟩ : ∃ gc, Hid (w1.heap.size = gc) := ⟨_, rfl⟩
  rw [hgc.out] at TK2 ⊢
  clear TK1 HG1 HR1 HR2 HG2
  go_cut [7] (fun v7 wx => ∃ v l, Hid (TK 70 QR w (w.heap.size + 1) gc (c8 (.int .i64 r1.1) v (.int .i64 0) (.slice none 0 0) (.int .i64 0) (.int .i64 0) (.int .i64 0) (.int .i64 0)) v (.slice none 0 0) l [] BT.2 wx) ∧ Hid (l.map flatB = BT.1))
  case first =>
    go_wp2
    go_loopw [7] (fun v7 wr => ∃ k : Nat, k ≤ n ∧ v7 = .int .i64 (k : Int) ∧ ∃ v l, Hid (TK 70 QR w (w.heap.size + 1) gc (c8 (.int .i64 r1.1) v (.int .i64 0) (.slice none 0 0) (.int .i64 0) (.int .i64 0) (.int .i64 0) (.int .i64 0)) v (.slice none 0 0) l [] (it stepB k ([], q1.2)).2 wr) ∧ Hid (l.map flatB = (it stepB k ([], q1.2)).1)) (fun v7 _ => n - (intOf v7).toNat)
    case atStart => exact ⟨0, by omega, rfl, _, [], TK2, rfl⟩
    case round =>
      obtain ⟨k, hk, rfl, v, l, TK3, HM3⟩ := hrel
      by_cases hlt : k < n
      · have hlt1 : (k : Int) < (n : Int) := by omega
        have HADD : Hid ((it stepB k ([], q1.2)).2.isNone = true → it stepB n ([], q1.2) = it stepB k ([], q1.2)) := fun e => it_add stepB k n _ (stepB_none _ e) (by omega)
        have HST : Hid (it stepB (k + 1) ([], q1.2) = stepB (it stepB k ([], q1.2))) := rfl
        have HLNk := Lib.hid (it_len stepB stepB_len k ([], q1.2))
        generalize it stepB k ([], q1.2) = S at *
        have cbad := rrBad TK3.out.rd
        cases hbad : S.2.isNone with
        | true =>
          rw [hbad] at cbad
          have HE := Lib.hid (HADD.out hbad)
          have HE2 : Hid (BT = S) := HBTn.out.symm.trans HE.out
          clear hlt hbad HADD
          go_wp2
          go_meet
          exact ⟨v, l, by rw [HE2.out]; exact TK3, by rw [HE2.out]; exact HM3⟩
        | false =>
          have HSB : Hid (stepB S = (S.1 ++ [(blueT S.2).1], (blueT S.2).2)) := by show _ = _; unfold stepB; rw [if_neg (by rw [hbad]; simp)]
          rw [hbad] at cbad
          obtain ⟨a1, ha1⟩ : ∃ r, Hid (rdI S.2 = r) := ⟨_, rfl⟩
          obtain ⟨a2, ha2⟩ : ∃ r, Hid (rdI a1.2 = r) := ⟨_, rfl⟩
          obtain ⟨a3, ha3⟩ : ∃ r, Hid (rdI a2.2 = r) := ⟨_, rfl⟩
          obtain ⟨q, hq⟩ : ∃ r, Hid (uintS 8 a3.2 = r) := ⟨_, rfl⟩
          obtain ⟨NT, hNT⟩ : ∃ r, Hid (needsT q.1 q.2 = r) := ⟨_, rfl⟩
          obtain ⟨d1, hd1⟩ : ∃ r, Hid (rdI NT.2 = r) := ⟨_, rfl⟩
          obtain ⟨d2, hd2⟩ : ∃ r, Hid (rdI d1.2 = r) := ⟨_, rfl⟩
          obtain ⟨d3, hd3⟩ : ∃ r, Hid (rdI d2.2 = r) := ⟨_, rfl⟩
          have HBL : Hid (blueT S.2 = (⟨a1.1, a2.1, a3.1, NT.1, none, 0, d1.1, d2.1, d3.1⟩, d3.2)) := by
            show _ = _
            simp only [blueT, blueT1, ha1.out, ha2.out, ha3.out, hq.out, hNT.out, hd1.out, hd2.out, hd3.out]
          obtain ⟨m, hm, hm2⟩ := num_nat _ (uint_bounds 8 a3.2 (by decide)).1
          have hmm : m ≤ 8 := by have := (uint_bounds 8 a3.2 (by decide)).2.1; omega
          rw [hq.out] at hm hm2
          have HQ1 : Hid (q.1 = (m : Int)) := hm
          have HNTm : Hid (it stepN m ([], q.2) = NT) := by show _ = _; rw [← hNT.out, ← hm2]; rfl
          have hmi : (m : Int) ≤ 8 := by omega
          clear hlt hbad HADD hm hm2
          go_upto_block 2 with (first
            | (go_at_call 35; (with_reducible refine (CI.out _ _ _ TK3.out.rd).mono ?_); rintro e w3 ⟨rfl, HR3, HG3⟩; rw [ha1.out] at HR3 ⊢; have TK4 := Lib.hid (TK3.out.call HG3.out HR3.out (by decide) (by decide) (by decide)); have TB4 := Lib.hid (TB.start TK4.out a1.1))
            | (go_at_call 35; (with_reducible refine (CI.out _ _ _ TB4.out.tk.rd).mono ?_); rintro e w4 ⟨rfl, HR4, HG4⟩; rw [ha2.out] at HR4 ⊢; have TB5 := Lib.hid (TB4.out.call HG4.out HR4.out (by decide) (by decide) (by decide)); have cb1 := TB5.out.rb.cell (i := 1) (by decide); have fz1 := TB5.out.rb.frozen 1; have TB5s : Hid (TB 70 QR w (w.heap.size + 1) gc w3.heap.size (c8 (.int .i64 r1.1) v (.int .i64 0) (.slice none 0 0) (.int .i64 0) (.int .i64 0) (.int .i64 0) (.int .i64 0)) (c7 (.int .i64 a1.1) (.int .i64 a2.1) (.int .i64 0) (.slice none 0 0) (.int .i64 0) (.int .i64 0) (.int .i64 0)) v (.slice none 0 0) (.slice none 0 0) l [] [] a2.2 (w4.setCell ⟨w3.heap.size, 1, none⟩ (.int .i64 a2.1))) := (TB5.out.setb 1 (.int .i64 a2.1)).flat)
            | (go_at_call 35; (with_reducible refine (CI.out _ _ _ TB5s.out.tk.rd).mono ?_); rintro e w5 ⟨rfl, HR5, HG5⟩; rw [ha3.out] at HR5 ⊢; have TB6 := Lib.hid (TB5s.out.call HG5.out HR5.out (by decide) (by decide) (by decide)); have cb2 := TB6.out.rb.cell (i := 2) (by decide); have fz2 := TB6.out.rb.frozen 2; have TB6s : Hid (TB 70 QR w (w.heap.size + 1) gc w3.heap.size (c8 (.int .i64 r1.1) v (.int .i64 0) (.slice none 0 0) (.int .i64 0) (.int .i64 0) (.int .i64 0) (.int .i64 0)) (c7 (.int .i64 a1.1) (.int .i64 a2.1) (.int .i64 a3.1) (.slice none 0 0) (.int .i64 0) (.int .i64 0) (.int .i64 0)) v (.slice none 0 0) (.slice none 0 0) l [] [] a3.2 (w5.setCell ⟨w3.heap.size, 2, none⟩ (.int .i64 a3.1))) := (TB6.out.setb 2 (.int .i64 a3.1)).flat)
            | (go_at_call 35; (with_reducible refine (CU.out _ _ _ 8 TB6s.out.tk.rd).mono ?_); rintro e w6 ⟨rfl, HR6, HG6⟩; rw [hq.out] at HR6 ⊢; have TB7 := Lib.hid (TB6s.out.call HG6.out HR6.out (by decide) (by decide) (by decide)); rw [HQ1.out]))
          obtain ⟨gb, hgb⟩ : ∃ gb, Hid (w3.heap.size = gb) := ⟨_, rfl⟩
          rw [hgb.out] at TB7 ⊢
          clear TK3 TK4 TB4 TB5 TB5s TB6 TB6s HR3 HR4 HR5 HR6 HG3 HG4 HG5 HG6 cb1 cb2 fz1 fz2 cbad
          go_cut [10] (fun v10 wx => ∃ nv, Hid (TB 70 QR w (w.heap.size + 1) gc gb (c8 (.int .i64 r1.1) v (.int .i64 0) (.slice none 0 0) (.int .i64 0) (.int .i64 0) (.int .i64 0) (.int .i64 0)) (c7 (.int .i64 a1.1) (.int .i64 a2.1) (.int .i64 a3.1) nv (.int .i64 0) (.int .i64 0) (.int .i64 0)) v (.slice none 0 0) nv l [] NT.1 NT.2 wx))
          case first =>
            go_wp2
            go_loopw [10] (fun v10 wx => ∃ j : Nat, j ≤ m ∧ v10 = .int .i64 (j : Int) ∧ ∃ nv, Hid (TB 70 QR w (w.heap.size + 1) gc gb (c8 (.int .i64 r1.1) v (.int .i64 0) (.slice none 0 0) (.int .i64 0) (.int .i64 0) (.int .i64 0) (.int .i64 0)) (c7 (.int .i64 a1.1) (.int .i64 a2.1) (.int .i64 a3.1) nv (.int .i64 0) (.int .i64 0) (.int .i64 0)) v (.slice none 0 0) nv l [] (it stepN j ([], q.2)).1 (it stepN j ([], q.2)).2 wx)) (fun v10 _ => m - (intOf v10).toNat)
            case atStart => exact ⟨0, by omega, rfl, _, TB7⟩
            case round =>
              obtain ⟨j, hj, rfl, nv, TB8⟩ := hrel
              by_cases hlj : j < m
              · have hlj1 : (j : Int) < (m : Int) := by omega
                have HADD : Hid ((it stepN j ([], q.2)).2.isNone = true → it stepN m ([], q.2) = it stepN j ([], q.2)) := fun e => it_add stepN j m _ (stepN_none _ e) (by omega)
                have HSTj : Hid (it stepN (j + 1) ([], q.2) = stepN (it stepN j ([], q.2))) := rfl
                have HLNj := Lib.hid (it_len stepN stepN_len j ([], q.2))
                generalize it stepN j ([], q.2) = s2 at *
                have cbad := rrBad TB8.out.tk.rd
                cases hbad : s2.2.isNone with
                | true =>
                  rw [hbad] at cbad
                  have HE : Hid (NT = s2) := HNTm.out.symm.trans (HADD.out hbad)
                  clear hlj hbad
                  go_wp2
                  go_meet
                  exact ⟨nv, by rw [HE.out]; exact TB8⟩
                | false =>
                  have HSN : Hid (stepN s2 = (s2.1 ++ [((rdI s2.2).1, (rdI (rdI s2.2).2).1)], (rdI (rdI s2.2).2).2)) := by show _ = _; unfold stepN; rw [if_neg (by rw [hbad]; simp)]
                  rw [hbad] at cbad
                  obtain ⟨b1, hb1⟩ : ∃ r, Hid (rdI s2.2 = r) := ⟨_, rfl⟩
                  obtain ⟨b2, hb2⟩ : ∃ r, Hid (rdI b1.2 = r) := ⟨_, rfl⟩
                  rw [hb1.out, hb2.out] at HSN
                  have hl9 : s2.1.length ≤ 8 := by have := HLNj.out; simp at this; omega
                  obtain ⟨i0, hi, hz0, hz1, hz2⟩ := info_parts stkinfo
                  clear hlj hbad HADD
                  go_wp2_with (first
                    | (go_at_call 35; (with_reducible refine (CI.out _ _ _ TB8.out.tk.rd).mono ?_); rintro e w7 ⟨rfl, HR7, HG7⟩; rw [hb1.out] at HR7 ⊢; have TB9 := Lib.hid (TB8.out.call HG7.out HR7.out (by decide) (by decide) (by decide)))
                    | (go_at_call 35; (with_reducible refine (CI.out _ _ _ (TB9.out.alloc _).tk.rd).mono ?_); rintro e w8 ⟨rfl, HR8, HG8⟩; rw [hb2.out] at HR8 ⊢; have TB10 := Lib.hid ((TB9.out.alloc _).call HG8.out HR8.out (by decide) (by decide) (by decide)); have hst := row_grown (srow w7 b1.1) HG8.out (fun e => by have := Option.some.inj e; have := TB9.out.tk.rd.lt; omega); have e0 := hst.cell (i := 0) (by decide); have e1 := hst.cell (i := 1) (by decide); have ef := hst.frozen 1; simp only [if_true, Nat.one_ne_zero, if_false] at e0 e1; have TB10s : Hid (TB 70 QR w (w.heap.size + 1) gc gb (c8 (.int .i64 r1.1) v (.int .i64 0) (.slice none 0 0) (.int .i64 0) (.int .i64 0) (.int .i64 0) (.int .i64 0)) (c7 (.int .i64 a1.1) (.int .i64 a2.1) (.int .i64 a3.1) nv (.int .i64 0) (.int .i64 0) (.int .i64 0)) v (.slice none 0 0) nv l [] s2.1 b2.2 (w8.setCell ⟨w7.heap.size, 1, none⟩ (.int .i64 b2.1))) := TB9.out.setNew TB10.out 1 _; have c3 := TB10s.out.rb.cell (i := 3) (by decide); have ne7 : w7.heap.size ≠ gb := (by have := TB9.out.rb.lt; omega))
                    | (refine wpList_append_lies _ rfl (.tmp 64) (.tmp 66) 39 rfl (gb + 1) 38 i0 _ 2 16 Try.underlying39 hi hz0 hz1 hz2 rfl (by omega) nv s2.1.length _ rfl (TB10s.out.on.alloc _) ⟨w8.heap.size, 0, none⟩ 1 1 [.int .i64 b1.1, .int .i64 b2.1] rfl (by rfl) (World.news_of_block (cs := #[.int .i64 b1.1, .int .i64 b2.1]) (t := 38) (fr := (0, 0)) (heap_at (by simp) _)) (by simp [Value.oneCell']) (by omega) (by unfold maxLen; omega) (by omega) (by have := TB10.out.rb.lt; simp; omega) (w8.heap.size + 1) (by simp) ?_; intro gg cap9 w9 hown hgr hat hlt; have HG9 := Lib.hid (grw_al _ hgr); have hro := row_grown TB10s.out.rb HG9.out (own_kind TB10s.out.on TB10s.out.rb (by decide)); have c39 := hro.cell (i := 3) (by decide); have f39 := hro.frozen 3; have TB11 := Lib.hid (TB.flat (TB10s.out.need HG9.out (by decide) hown)); clear hown hgr hat hlt hro))
                  go_roundw
                  case rel => exact ⟨j + 1, by omega, by go_num, _, by rw [HSTj.out, HSN.out]; exact TB11⟩
                  case measure => simp [intOf]; omega
              · have hge : ¬ (j : Int) < (m : Int) := by omega
                have hje : j = m := by omega
                rw [hje, HNTm.out] at TB8
                clear hlj
                go_wp2
                go_meet
                exact ⟨nv, TB8⟩
          case rest =>
            obtain ⟨nv, TB12⟩ := hcut
            obtain ⟨A9, C9, rfl, -⟩ := stks_of_own TB12.out.on
            have hl9 : l.length ≤ 16 := by have := HLNk.out; have := congrArg List.length HM3.out; simp at *; omega
            obtain ⟨i0, hi, hz0, hz1, hz2⟩ := info_parts blueinfo
            clear TB7
            go_wp2_with (first
              | (go_at_call 35; (with_reducible refine (CI.out _ _ _ TB12.out.tk.rd).mono ?_); rintro e w13 ⟨rfl, HR13, HG13⟩; rw [hd1.out] at HR13 ⊢; have TB13 := Lib.hid (TB12.out.call HG13.out HR13.out (by decide) (by decide) (by decide)); have cb4 := TB13.out.rb.cell (i := 4) (by decide); have fz4 := TB13.out.rb.frozen 4; have TB13s : Hid (TB 70 QR w (w.heap.size + 1) gc gb (c8 (.int .i64 r1.1) v (.int .i64 0) (.slice none 0 0) (.int .i64 0) (.int .i64 0) (.int .i64 0) (.int .i64 0)) (c7 (.int .i64 a1.1) (.int .i64 a2.1) (.int .i64 a3.1) (.slice A9 NT.1.length C9) (.int .i64 d1.1) (.int .i64 0) (.int .i64 0)) v (.slice none 0 0) (.slice A9 NT.1.length C9) l [] NT.1 d1.2 (w13.setCell ⟨gb, 4, none⟩ (.int .i64 d1.1))) := (TB13.out.setb 4 (.int .i64 d1.1)).flat)
              | (go_at_call 35; (with_reducible refine (CI.out _ _ _ TB13s.out.tk.rd).mono ?_); rintro e w14 ⟨rfl, HR14, HG14⟩; rw [hd2.out] at HR14 ⊢; have TB14 := Lib.hid (TB13s.out.call HG14.out HR14.out (by decide) (by decide) (by decide)); have cb5 := TB14.out.rb.cell (i := 5) (by decide); have fz5 := TB14.out.rb.frozen 5; have TB14s : Hid (TB 70 QR w (w.heap.size + 1) gc gb (c8 (.int .i64 r1.1) v (.int .i64 0) (.slice none 0 0) (.int .i64 0) (.int .i64 0) (.int .i64 0) (.int .i64 0)) (c7 (.int .i64 a1.1) (.int .i64 a2.1) (.int .i64 a3.1) (.slice A9 NT.1.length C9) (.int .i64 d1.1) (.int .i64 d2.1) (.int .i64 0)) v (.slice none 0 0) (.slice A9 NT.1.length C9) l [] NT.1 d2.2 (w14.setCell ⟨gb, 5, none⟩ (.int .i64 d2.1))) := (TB14.out.setb 5 (.int .i64 d2.1)).flat)
              | (go_at_call 35; (with_reducible refine (CI.out _ _ _ TB14s.out.tk.rd).mono ?_); rintro e w15 ⟨rfl, HR15, HG15⟩; rw [hd3.out] at HR15 ⊢; have TB15 := Lib.hid (TB14s.out.call HG15.out HR15.out (by decide) (by decide) (by decide)); have cb6 := TB15.out.rb.cell (i := 6) (by decide); have fz6 := TB15.out.rb.frozen 6; have TB15s : Hid (TB 70 QR w (w.heap.size + 1) gc gb (c8 (.int .i64 r1.1) v (.int .i64 0) (.slice none 0 0) (.int .i64 0) (.int .i64 0) (.int .i64 0) (.int .i64 0)) (c7 (.int .i64 a1.1) (.int .i64 a2.1) (.int .i64 a3.1) (.slice A9 NT.1.length C9) (.int .i64 d1.1) (.int .i64 d2.1) (.int .i64 d3.1)) v (.slice none 0 0) (.slice A9 NT.1.length C9) l [] NT.1 d3.2 (w15.setCell ⟨gb, 6, none⟩ (.int .i64 d3.1))) := (TB15.out.setb 6 (.int .i64 d3.1)).flat; have cv := TB15s.out.tk.row.cell (i := 1) (by decide); obtain ⟨z0, z1, z2, z3, z4, z5, z6, -⟩ := row7 TB15s.out.rb; simp only [c7, c8] at cv z0 z1 z2 z3 z4 z5 z6)
              | (refine wpList_append_lies _ rfl (.tmp 79) (.tmp 81) 22 rfl w.heap.size 41 i0 _ 7 72 Try.underlying22 hi hz0 hz1 hz2 rfl (by omega) v l.length _ rfl (TB15s.out.tk.ob.alloc _) ⟨w15.heap.size, 0, none⟩ 1 1 [.int .i64 a1.1, .int .i64 a2.1, .int .i64 a3.1, .slice A9 NT.1.length C9, .int .i64 d1.1, .int .i64 d2.1, .int .i64 d3.1] rfl (by rfl) (World.news_of_block (cs := #[.int .i64 a1.1, .int .i64 a2.1, .int .i64 a3.1, .slice A9 NT.1.length C9, .int .i64 d1.1, .int .i64 d2.1, .int .i64 d3.1]) (t := 41) (fr := (0, 0)) (heap_at (by simp) _)) (by simp [Value.oneCell']) (by omega) (by unfold maxLen; omega) (by omega) (by have := TB15.out.tk.fr.size; simp; omega) (w15.heap.size + 1) (by simp) ?_; intro gg cap9 w16 hown hgr hat hlt; have HG16 := Lib.hid (grw_al _ hgr); have hro := row_grown TB15s.out.tk.row HG16.out (own_kind TB15s.out.tk.ob TB15s.out.tk.row (by decide)); have c16 := hro.cell (i := 1) (by decide); have f16 := hro.frozen 1; have TK17 := Lib.hid (TK.flat (TB.done (b := ⟨a1.1, a2.1, a3.1, NT.1, A9, C9, d1.1, d2.1, d3.1⟩) TB15s.out HG16.out (by decide) hown)); clear hown hgr hat hlt hro))
            go_roundw
            case rel => exact ⟨k + 1, by omega, by go_num, _, _, by rw [HST.out, HSB.out, HBL.out]; exact TK17, by rw [HST.out, HSB.out, HBL.out]; show _ = _; rw [List.map_append, HM3.out]; rfl⟩
            case measure => simp [intOf]; omega
      · have hge : ¬ (k : Int) < (n : Int) := by omega
        have hke : k = n := by omega
        rw [hke, HBTn.out] at TK3 HM3
        clear hlt
        go_wp2
        go_meet
        exact ⟨v, l, TK3, HM3⟩
  case rest =>
    obtain ⟨v, l, TK20, HM⟩ := hcut
    have HM20 := HM
    clear TK2
    obtain ⟨n2, hn, hn2⟩ := num_nat _ (uint_bounds 8 r2.2 (by decide)).1
    have hnm2 : n2 ≤ 8 := by have := (uint_bounds 8 r2.2 (by decide)).2.1; omega
    rw [k2.out] at hn hn2
    have HN2 : Hid (q2.1 = (n2 : Int)) := hn
    have HYTn : Hid (it stepY n2 ([], q2.2) = YT) := by show _ = _; rw [← hYT.out, ← hn2]; rfl
    have hni2 : (n2 : Int) ≤ 8 := by omega
    clear hn hn2
    go_upto_block 4 with (first
      | (go_at_call 35; (with_reducible refine (CI.out _ _ _ TK20.out.rd).mono ?_); rintro e w21 ⟨rfl, HR21, HG21⟩; rw [h2.out] at HR21 ⊢; have TK21 := Lib.hid (TK20.out.call HG21.out HR21.out (by decide) (by decide) (by decide)); have cb1 := TK21.out.row.cell (i := 2) (by decide); have fz1 := TK21.out.row.frozen 2; have TK21s : Hid (TK 70 QR w (w.heap.size + 1) gc (c8 (.int .i64 r1.1) v (.int .i64 r2.1) (.slice none 0 0) (.int .i64 0) (.int .i64 0) (.int .i64 0) (.int .i64 0)) v (.slice none 0 0) l [] r2.2 (w21.setCell ⟨gc, 2, none⟩ (.int .i64 r2.1))) := (TK21.out.set 2 (.int .i64 r2.1)).flat)
      | (go_at_call 35; (with_reducible refine (CU.out _ _ _ 8 TK21s.out.rd).mono ?_); rintro e w22 ⟨rfl, HR22, HG22⟩; rw [k2.out] at HR22 ⊢; have TK22 := Lib.hid (TK21s.out.call HG22.out HR22.out (by decide) (by decide) (by decide)); rw [HN2.out]))
    clear TK20 TK21 TK21s HR21 HG21 HR22 HG22 cb1 fz1
    go_cut [12] (fun v12 wx => ∃ u, Hid (TK 70 QR w (w.heap.size + 1) gc (c8 (.int .i64 r1.1) v (.int .i64 r2.1) u (.int .i64 0) (.int .i64 0) (.int .i64 0) (.int .i64 0)) v u l YT.1 YT.2 wx))
    case first =>
      go_wp2
      go_loopw [12] (fun v12 wx => ∃ j : Nat, j ≤ n2 ∧ v12 = .int .i64 (j : Int) ∧ ∃ u, Hid (TK 70 QR w (w.heap.size + 1) gc (c8 (.int .i64 r1.1) v (.int .i64 r2.1) u (.int .i64 0) (.int .i64 0) (.int .i64 0) (.int .i64 0)) v u l (it stepY j ([], q2.2)).1 (it stepY j ([], q2.2)).2 wx)) (fun v12 _ => n2 - (intOf v12).toNat)
      case atStart => exact ⟨0, by omega, rfl, _, TK22⟩
      case round =>
        obtain ⟨j, hj, rfl, u, TK8⟩ := hrel
        by_cases hlj : j < n2
        · have hlj1 : (j : Int) < (n2 : Int) := by omega
          have HADD : Hid ((it stepY j ([], q2.2)).2.isNone = true → it stepY n2 ([], q2.2) = it stepY j ([], q2.2)) := fun e => it_add stepY j n2 _ (stepY_none _ e) (by omega)
          have HSTj : Hid (it stepY (j + 1) ([], q2.2) = stepY (it stepY j ([], q2.2))) := rfl
          have HLNj := Lib.hid (it_len stepY stepY_len j ([], q2.2))
          generalize it stepY j ([], q2.2) = s2 at *
          have cbad := rrBad TK8.out.rd
          cases hbad : s2.2.isNone with
          | true =>
            rw [hbad] at cbad
            have HE : Hid (YT = s2) := HYTn.out.symm.trans (HADD.out hbad)
            clear hlj hbad HADD
            go_wp2
            go_meet
            exact ⟨u, by rw [HE.out]; exact TK8⟩
          | false =>
            have HSN0 : Hid (stepY s2 = (s2.1 ++ [(bayT s2.2).1], (bayT s2.2).2)) := by show _ = _; unfold stepY; rw [if_neg (by rw [hbad]; simp)]
            rw [hbad] at cbad
            obtain ⟨p1, hp1⟩ : ∃ r, Hid (rdI s2.2 = r) := ⟨_, rfl⟩
            obtain ⟨p2, hp2⟩ : ∃ r, Hid (rdI p1.2 = r) := ⟨_, rfl⟩
            obtain ⟨p3, hp3⟩ : ∃ r, Hid (rdI p2.2 = r) := ⟨_, rfl⟩
            obtain ⟨p4, hp4⟩ : ∃ r, Hid (rdI p3.2 = r) := ⟨_, rfl⟩
            have HSN : Hid (stepY s2 = (s2.1 ++ [⟨p1.1, p2.1, p3.1, p4.1⟩], p4.2)) := by
              show _ = _
              rw [HSN0.out]
              simp only [bayT, hp1.out, hp2.out, hp3.out, hp4.out]
            have hl9 : s2.1.length ≤ 8 := by have := HLNj.out; simp at this; omega
            obtain ⟨i0, hi, hz0, hz1, hz2⟩ := info_parts bayinfo
            clear hlj hbad HADD HSN0
            go_wp2_with (first
              | (go_at_call 35; (with_reducible refine (CI.out _ _ _ TK8.out.rd).mono ?_); rintro e w31 ⟨rfl, HR31, HG31⟩; rw [hp1.out] at HR31 ⊢; have TK31 := Lib.hid (TK8.out.call HG31.out HR31.out (by decide) (by decide) (by decide)))
              | (go_at_call 35; (with_reducible refine (CI.out _ _ _ (TK31.out.alloc _).rd).mono ?_); rintro e w32 ⟨rfl, HR32, HG32⟩; rw [hp2.out] at HR32 ⊢; have TK32 := Lib.hid ((TK31.out.alloc _).call HG32.out HR32.out (by decide) (by decide) (by decide)); have y32 := row_grown (brow w31 p1.1) HG32.out (fun e => by have := Option.some.inj e; have := TK31.out.rd.lt; omega); have e1 := y32.cell (i := 1) (by decide); have ef1 := y32.frozen 1; have TK32s : Hid (TK 70 QR w (w.heap.size + 1) gc (c8 (.int .i64 r1.1) v (.int .i64 r2.1) u (.int .i64 0) (.int .i64 0) (.int .i64 0) (.int .i64 0)) v u l s2.1 p2.2 (w32.setCell ⟨w31.heap.size, 1, none⟩ (.int .i64 p2.1))) := TK31.out.setNew TK32.out 1 _; have y32s := Lib.hid (y32.set 1 (.int .i64 p2.1)))
              | (go_at_call 35; (with_reducible refine (CI.out _ _ _ TK32s.out.rd).mono ?_); rintro e w33 ⟨rfl, HR33, HG33⟩; rw [hp3.out] at HR33 ⊢; have TK33 := Lib.hid (TK32s.out.call HG33.out HR33.out (by decide) (by decide) (by decide)); have y33 := row_grown y32s.out HG33.out (fun e => by have := Option.some.inj e; have := TK31.out.rd.lt; omega); have e2 := y33.cell (i := 2) (by decide); have ef2 := y33.frozen 2; have TK33s : Hid (TK 70 QR w (w.heap.size + 1) gc (c8 (.int .i64 r1.1) v (.int .i64 r2.1) u (.int .i64 0) (.int .i64 0) (.int .i64 0) (.int .i64 0)) v u l s2.1 p3.2 (w33.setCell ⟨w31.heap.size, 2, none⟩ (.int .i64 p3.1))) := TK31.out.setNew TK33.out 2 _; have y33s := Lib.hid (y33.set 2 (.int .i64 p3.1)))
              | (go_at_call 35; (with_reducible refine (CI.out _ _ _ TK33s.out.rd).mono ?_); rintro e w34 ⟨rfl, HR34, HG34⟩; rw [hp4.out] at HR34 ⊢; have TK34 := Lib.hid (TK33s.out.call HG34.out HR34.out (by decide) (by decide) (by decide)); have y34 := row_grown y33s.out HG34.out (fun e => by have := Option.some.inj e; have := TK31.out.rd.lt; omega); have e3 := y34.cell (i := 3) (by decide); have ef3 := y34.frozen 3; have TK34s : Hid (TK 70 QR w (w.heap.size + 1) gc (c8 (.int .i64 r1.1) v (.int .i64 r2.1) u (.int .i64 0) (.int .i64 0) (.int .i64 0) (.int .i64 0)) v u l s2.1 p4.2 (w34.setCell ⟨w31.heap.size, 3, none⟩ (.int .i64 p4.1))) := TK31.out.setNew TK34.out 3 _; have y34s := y34.set 3 (.int .i64 p4.1); have g0 := y34s.cell (i := 0) (by decide); have g1 := y34s.cell (i := 1) (by decide); have g2 := y34s.cell (i := 2) (by decide); have g3 := y34s.cell (i := 3) (by decide); have cu := TK34s.out.row.cell (i := 3) (by decide); simp only [c8, if_true, if_false, Nat.reduceEqDiff, Nat.one_ne_zero, Nat.zero_ne_one] at g0 g1 g2 g3 cu; clear y34 y34s e1 e2 ef1 ef2)
              | (refine wpList_append_lies _ rfl (.tmp 114) (.tmp 116) 23 rfl w.heap.size 50 i0 _ 4 32 Try.underlying23 hi hz0 hz1 hz2 rfl (by omega) u s2.1.length _ rfl (TK34s.out.oy.alloc _) ⟨w34.heap.size, 0, none⟩ 1 1 [.int .i64 p1.1, .int .i64 p2.1, .int .i64 p3.1, .int .i64 p4.1] rfl (by rfl) (World.news_of_block (cs := #[.int .i64 p1.1, .int .i64 p2.1, .int .i64 p3.1, .int .i64 p4.1]) (t := 50) (fr := (0, 0)) (heap_at (by simp) _)) (by simp [Value.oneCell']) (by omega) (by unfold maxLen; omega) (by omega) (by have := TK34.out.fr.size; simp; omega) (w34.heap.size + 1) (by simp) ?_; intro gg cap9 w35 hown hgr hat hlt; have HG35 := Lib.hid (grw_al _ hgr); have hro := row_grown TK34s.out.row HG35.out (own_kind TK34s.out.oy TK34s.out.row (by decide)); have c35 := hro.cell (i := 3) (by decide); have f35 := hro.frozen 3; have TK40 := Lib.hid (TK.flat (TK.bay (b := ⟨p1.1, p2.1, p3.1, p4.1⟩) TK34s.out HG35.out (by decide) hown)); clear hown hgr hat hlt hro))
            go_roundw
            case rel => exact ⟨j + 1, by omega, by go_num, _, by rw [HSTj.out, HSN.out]; exact TK40⟩
            case measure => simp [intOf]; omega
        · have hge : ¬ (j : Int) < (n2 : Int) := by omega
          have hje : j = n2 := by omega
          rw [hje, HYTn.out] at TK8
          clear hlj
          go_wp2
          go_meet
          exact ⟨u, TK8⟩
    case rest =>
      obtain ⟨u, TK50⟩ := hcut
      clear TK22
      obtain ⟨ba, bc, ya, yc, rfl, rfl, -⟩ := TK50.out.lies
      have HFL : Hid (flatC (⟨r1.1, l, ba, bc, r2.1, YT.1, ya, yc, r3.1, r4.1, r5.1, r6.1⟩ : CatIn) = (takeT o0).1) := by
        show _ = _
        rw [HT.out]
        show (⟨r1.1, l.map flatB, none, 0, r2.1, YT.1, none, 0, r3.1, r4.1, r5.1, r6.1⟩ : CatIn) = _
        rw [HM20.out]
      have HSN : Hid (Small (⟨r1.1, l, ba, bc, r2.1, YT.1, ya, yc, r3.1, r4.1, r5.1, r6.1⟩ : CatIn) ∧ Nums (⟨r1.1, l, ba, bc, r2.1, YT.1, ya, yc, r3.1, r4.1, r5.1, r6.1⟩ : CatIn)) := ⟨small_flat (by rw [HFL.out]; exact (takeT_ok o0).1), nums_flat (by rw [HFL.out]; exact (takeT_ok o0).2)⟩
      have CK : Hid (∀ W, (Blues W ba l ∧ Bays W ya YT.1 ∧ ∀ i, i < l.length → Stks W (l.getD i nob).addr (l.getD i nob).needs) → Calls Try.prog 20 #[.agg (CatIn.val (⟨r1.1, l, ba, bc, r2.1, YT.1, ya, yc, r3.1, r4.1, r5.1, r6.1⟩ : CatIn))] W fun e w' => e = .returned (.int .i64 (chkC (⟨r1.1, l, ba, bc, r2.1, YT.1, ya, yc, r3.1, r4.1, r5.1, r6.1⟩ : CatIn))) ∧ Below W.heap.size W w') := fun W h => refCheck_any _ W ⟨h, HSN.out.1, HSN.out.2⟩
      have HK : Hid (chkC (takeT o0).1 = chkC (⟨r1.1, l, ba, bc, r2.1, YT.1, ya, yc, r3.1, r4.1, r5.1, r6.1⟩ : CatIn)) := by show _ = _; rw [← HFL.out, chkC_flat]
      obtain ⟨K, hK⟩ : ∃ K, Hid (chkC (⟨r1.1, l, ba, bc, r2.1, YT.1, ya, yc, r3.1, r4.1, r5.1, r6.1⟩ : CatIn) = K) := ⟨_, rfl⟩
      rw [hK.out] at CK HK
      rw [HK.out] at HV
      unfold CatIn.val at CK
      have CD1 : Hid (∀ W, Rd 70 QR W (w.heap.size + 1) r6.2 → _) := fun W h => CD.out W _ _ h
      cases hd : doneS r6.2 with
      | false =>
        have HV2 : Hid (TV = (noc, 2)) := by show _ = _; rw [HV.out, hd]; rfl
        rw [hd] at CD1
        clear hd HV
        go_wp2_with (first
          | (go_at_call 35; (with_reducible refine (CI.out _ _ _ TK50.out.rd).mono ?_); rintro e w51 ⟨rfl, HR51, HG51⟩; rw [h3.out] at HR51 ⊢; have TK51 := Lib.hid (TK50.out.call HG51.out HR51.out (by decide) (by decide) (by decide)); have cb51 := TK51.out.row.cell (i := 4) (by decide); have fz51 := TK51.out.row.frozen 4; have TK51s : Hid (TK 70 QR w (w.heap.size + 1) gc (c8 (.int .i64 r1.1) (.slice ba l.length bc) (.int .i64 r2.1) (.slice ya YT.1.length yc) (.int .i64 r3.1) (.int .i64 0) (.int .i64 0) (.int .i64 0)) (.slice ba l.length bc) (.slice ya YT.1.length yc) l YT.1 r3.2 (w51.setCell ⟨gc, 4, none⟩ (.int .i64 r3.1))) := (TK51.out.set 4 (.int .i64 r3.1)).flat; clear HR51 HG51)
          | (go_at_call 35; (with_reducible refine (CI.out _ _ _ TK51s.out.rd).mono ?_); rintro e w52 ⟨rfl, HR52, HG52⟩; rw [h4.out] at HR52 ⊢; have TK52 := Lib.hid (TK51s.out.call HG52.out HR52.out (by decide) (by decide) (by decide)); have cb52 := TK52.out.row.cell (i := 5) (by decide); have fz52 := TK52.out.row.frozen 5; have TK52s : Hid (TK 70 QR w (w.heap.size + 1) gc (c8 (.int .i64 r1.1) (.slice ba l.length bc) (.int .i64 r2.1) (.slice ya YT.1.length yc) (.int .i64 r3.1) (.int .i64 r4.1) (.int .i64 0) (.int .i64 0)) (.slice ba l.length bc) (.slice ya YT.1.length yc) l YT.1 r4.2 (w52.setCell ⟨gc, 5, none⟩ (.int .i64 r4.1))) := (TK52.out.set 5 (.int .i64 r4.1)).flat; clear HR52 HG52)
          | (go_at_call 35; (with_reducible refine (CI.out _ _ _ TK52s.out.rd).mono ?_); rintro e w53 ⟨rfl, HR53, HG53⟩; rw [h5.out] at HR53 ⊢; have TK53 := Lib.hid (TK52s.out.call HG53.out HR53.out (by decide) (by decide) (by decide)); have cb53 := TK53.out.row.cell (i := 6) (by decide); have fz53 := TK53.out.row.frozen 6; have TK53s : Hid (TK 70 QR w (w.heap.size + 1) gc (c8 (.int .i64 r1.1) (.slice ba l.length bc) (.int .i64 r2.1) (.slice ya YT.1.length yc) (.int .i64 r3.1) (.int .i64 r4.1) (.int .i64 r5.1) (.int .i64 0)) (.slice ba l.length bc) (.slice ya YT.1.length yc) l YT.1 r5.2 (w53.setCell ⟨gc, 6, none⟩ (.int .i64 r5.1))) := (TK53.out.set 6 (.int .i64 r5.1)).flat; clear HR53 HG53)
          | (go_at_call 35; (with_reducible refine (CI.out _ _ _ TK53s.out.rd).mono ?_); rintro e w54 ⟨rfl, HR54, HG54⟩; rw [h6.out] at HR54 ⊢; have TK54 := Lib.hid (TK53s.out.call HG54.out HR54.out (by decide) (by decide) (by decide)); have cb54 := TK54.out.row.cell (i := 7) (by decide); have fz54 := TK54.out.row.frozen 7; have TK54s : Hid (TK 70 QR w (w.heap.size + 1) gc (c8 (.int .i64 r1.1) (.slice ba l.length bc) (.int .i64 r2.1) (.slice ya YT.1.length yc) (.int .i64 r3.1) (.int .i64 r4.1) (.int .i64 r5.1) (.int .i64 r6.1)) (.slice ba l.length bc) (.slice ya YT.1.length yc) l YT.1 r6.2 (w54.setCell ⟨gc, 7, none⟩ (.int .i64 r6.1))) := (TK54.out.set 7 (.int .i64 r6.1)).flat; clear HR54 HG54)
          | (go_at_call 36; (with_reducible refine (CD1.out _ TK54s.out.rd).mono ?_); rintro e w60 ⟨rfl, hb60⟩; have TK60 := Lib.hid (TK54s.out.below hb60); have HRES := heap8 TK60.out.res; (obtain ⟨p0, p1, p2, p3, p4, p5, p6, p7⟩ := row8 TK60.out.row); simp only [c8] at HRES p0 p1 p2 p3 p4 p5 p6 p7; clear hb60 cb51 cb52 cb53 cb54 fz51 fz52 fz53 fz54)
          | (refine wpList_store_row rfl 27 (.tmp 2) (.tmp 142) rfl w.heap.size #[.int .i64 0, .slice none 0 0, .int .i64 0, .slice none 0 0, .int .i64 0, .int .i64 0, .int .i64 0, .int .i64 0] rfl rfl 27 _ HRES sizeC rfl (by simp [Value.oneCell']) ?_))
        try simp only [Exit.inBlock, Exit.then]
        refine bodyPost_ret (v := .tuple #[.agg #[.int .i64 0, .slice none 0 0, .int .i64 0, .slice none 0 0, .int .i64 0, .int .i64 0, .int .i64 0, .int .i64 0], .int .i64 2]) ?_ rfl ?_
        · rw [results_cell_tmp rfl]
          simp [asAddr, run_loadVar_row _ _ _ _ #[.int .i64 0, .slice none 0 0, .int .i64 0, .slice none 0 0, .int .i64 0, .int .i64 0, .int .i64 0, .int .i64 0] _ _ (setRow_in HRES) Try.underlying27 rfl sizeC]
        exact ⟨noc, (by rw [HV2.out]; rfl), (by show _ = _; rw [HV2.out]; rfl), ⟨fun i hi => absurd hi (Nat.not_lt_zero _), fun i hi => absurd hi (Nat.not_lt_zero _), fun i hi => absurd hi (Nat.not_lt_zero _)⟩, (TK60.out.fin (Below.refl _ _) _).2⟩
      | true =>
        rw [hd] at CD1
        by_cases hk : K = 0
        · have HV2 : Hid (TV = ((takeT o0).1, 0)) := by show _ = _; rw [HV.out, hd, hk]; rfl
          rw [hk] at CK
          clear hd HV hk
          go_wp2_with (first
            | (go_at_call 35; (with_reducible refine (CI.out _ _ _ TK50.out.rd).mono ?_); rintro e w51 ⟨rfl, HR51, HG51⟩; rw [h3.out] at HR51 ⊢; have TK51 := Lib.hid (TK50.out.call HG51.out HR51.out (by decide) (by decide) (by decide)); have cb51 := TK51.out.row.cell (i := 4) (by decide); have fz51 := TK51.out.row.frozen 4; have TK51s : Hid (TK 70 QR w (w.heap.size + 1) gc (c8 (.int .i64 r1.1) (.slice ba l.length bc) (.int .i64 r2.1) (.slice ya YT.1.length yc) (.int .i64 r3.1) (.int .i64 0) (.int .i64 0) (.int .i64 0)) (.slice ba l.length bc) (.slice ya YT.1.length yc) l YT.1 r3.2 (w51.setCell ⟨gc, 4, none⟩ (.int .i64 r3.1))) := (TK51.out.set 4 (.int .i64 r3.1)).flat; clear HR51 HG51)
            | (go_at_call 35; (with_reducible refine (CI.out _ _ _ TK51s.out.rd).mono ?_); rintro e w52 ⟨rfl, HR52, HG52⟩; rw [h4.out] at HR52 ⊢; have TK52 := Lib.hid (TK51s.out.call HG52.out HR52.out (by decide) (by decide) (by decide)); have cb52 := TK52.out.row.cell (i := 5) (by decide); have fz52 := TK52.out.row.frozen 5; have TK52s : Hid (TK 70 QR w (w.heap.size + 1) gc (c8 (.int .i64 r1.1) (.slice ba l.length bc) (.int .i64 r2.1) (.slice ya YT.1.length yc) (.int .i64 r3.1) (.int .i64 r4.1) (.int .i64 0) (.int .i64 0)) (.slice ba l.length bc) (.slice ya YT.1.length yc) l YT.1 r4.2 (w52.setCell ⟨gc, 5, none⟩ (.int .i64 r4.1))) := (TK52.out.set 5 (.int .i64 r4.1)).flat; clear HR52 HG52)
            | (go_at_call 35; (with_reducible refine (CI.out _ _ _ TK52s.out.rd).mono ?_); rintro e w53 ⟨rfl, HR53, HG53⟩; rw [h5.out] at HR53 ⊢; have TK53 := Lib.hid (TK52s.out.call HG53.out HR53.out (by decide) (by decide) (by decide)); have cb53 := TK53.out.row.cell (i := 6) (by decide); have fz53 := TK53.out.row.frozen 6; have TK53s : Hid (TK 70 QR w (w.heap.size + 1) gc (c8 (.int .i64 r1.1) (.slice ba l.length bc) (.int .i64 r2.1) (.slice ya YT.1.length yc) (.int .i64 r3.1) (.int .i64 r4.1) (.int .i64 r5.1) (.int .i64 0)) (.slice ba l.length bc) (.slice ya YT.1.length yc) l YT.1 r5.2 (w53.setCell ⟨gc, 6, none⟩ (.int .i64 r5.1))) := (TK53.out.set 6 (.int .i64 r5.1)).flat; clear HR53 HG53)
            | (go_at_call 35; (with_reducible refine (CI.out _ _ _ TK53s.out.rd).mono ?_); rintro e w54 ⟨rfl, HR54, HG54⟩; rw [h6.out] at HR54 ⊢; have TK54 := Lib.hid (TK53s.out.call HG54.out HR54.out (by decide) (by decide) (by decide)); have cb54 := TK54.out.row.cell (i := 7) (by decide); have fz54 := TK54.out.row.frozen 7; have TK54s : Hid (TK 70 QR w (w.heap.size + 1) gc (c8 (.int .i64 r1.1) (.slice ba l.length bc) (.int .i64 r2.1) (.slice ya YT.1.length yc) (.int .i64 r3.1) (.int .i64 r4.1) (.int .i64 r5.1) (.int .i64 r6.1)) (.slice ba l.length bc) (.slice ya YT.1.length yc) l YT.1 r6.2 (w54.setCell ⟨gc, 7, none⟩ (.int .i64 r6.1))) := (TK54.out.set 7 (.int .i64 r6.1)).flat; clear HR54 HG54)
            | (go_at_call 36; (with_reducible refine (CD1.out _ TK54s.out.rd).mono ?_); rintro e w60 ⟨rfl, hb60⟩; have TK60 := Lib.hid (TK54s.out.below hb60); have HRES := heap8 TK60.out.res; (obtain ⟨p0, p1, p2, p3, p4, p5, p6, p7⟩ := row8 TK60.out.row); simp only [c8] at HRES p0 p1 p2 p3 p4 p5 p6 p7; clear hb60 cb51 cb52 cb53 cb54 fz51 fz52 fz53 fz54)
            | (go_at_call 20; (with_reducible refine (CK.out _ TK60.out.at_).mono ?_); rintro e w61 ⟨rfl, hb61⟩; have HB61 := Lib.hid hb61; have hg61 := (hb61.block w.heap.size TK60.out.res.lt).trans HRES; have hgl := TK60.out.row.lt; have m0 := (hb61.cell (p := ⟨gc, 0, none⟩) hgl).trans p0; have m1 := (hb61.cell (p := ⟨gc, 1, none⟩) hgl).trans p1; have m2 := (hb61.cell (p := ⟨gc, 2, none⟩) hgl).trans p2; have m3 := (hb61.cell (p := ⟨gc, 3, none⟩) hgl).trans p3; have m4 := (hb61.cell (p := ⟨gc, 4, none⟩) hgl).trans p4; have m5 := (hb61.cell (p := ⟨gc, 5, none⟩) hgl).trans p5; have m6 := (hb61.cell (p := ⟨gc, 6, none⟩) hgl).trans p6; have m7 := (hb61.cell (p := ⟨gc, 7, none⟩) hgl).trans p7; clear hb61)
            | (refine wpList_store_row rfl 27 (.tmp 2) (.tmp 143) rfl w.heap.size #[.int .i64 r1.1, .slice ba l.length bc, .int .i64 r2.1, .slice ya YT.1.length yc, .int .i64 r3.1, .int .i64 r4.1, .int .i64 r5.1, .int .i64 r6.1] rfl rfl 27 _ hg61 sizeC rfl (by simp [Value.oneCell']) ?_))
          try simp only [Exit.inBlock, Exit.then]
          refine bodyPost_ret (v := .tuple #[.agg #[.int .i64 r1.1, .slice ba l.length bc, .int .i64 r2.1, .slice ya YT.1.length yc, .int .i64 r3.1, .int .i64 r4.1, .int .i64 r5.1, .int .i64 r6.1], .int .i64 0]) ?_ rfl ?_
          · rw [results_cell_tmp rfl]
            simp [asAddr, run_loadVar_row _ _ _ _ #[.int .i64 r1.1, .slice ba l.length bc, .int .i64 r2.1, .slice ya YT.1.length yc, .int .i64 r3.1, .int .i64 r4.1, .int .i64 r5.1, .int .i64 r6.1] _ _ (setRow_in hg61) Try.underlying27 rfl sizeC]
          have hfin := TK60.out.fin HB61.out #[.int .i64 r1.1, .slice ba l.length bc, .int .i64 r2.1, .slice ya YT.1.length yc, .int .i64 r3.1, .int .i64 r4.1, .int .i64 r5.1, .int .i64 r6.1]
          exact ⟨(⟨r1.1, l, ba, bc, r2.1, YT.1, ya, yc, r3.1, r4.1, r5.1, r6.1⟩ : CatIn), (by rw [HV2.out]; rfl), (by show _ = _; rw [HV2.out]; exact HFL.out), hfin.1, hfin.2⟩
        · have HV2 : Hid (TV = (noc, 2)) := by show _ = _; rw [HV.out, hd, decide_eq_false hk]; rfl
          have dk : (K == 0) = false := beq_eq_false_iff_ne.2 hk
          clear hd HV
          go_wp2_with (first
            | (go_at_call 35; (with_reducible refine (CI.out _ _ _ TK50.out.rd).mono ?_); rintro e w51 ⟨rfl, HR51, HG51⟩; rw [h3.out] at HR51 ⊢; have TK51 := Lib.hid (TK50.out.call HG51.out HR51.out (by decide) (by decide) (by decide)); have cb51 := TK51.out.row.cell (i := 4) (by decide); have fz51 := TK51.out.row.frozen 4; have TK51s : Hid (TK 70 QR w (w.heap.size + 1) gc (c8 (.int .i64 r1.1) (.slice ba l.length bc) (.int .i64 r2.1) (.slice ya YT.1.length yc) (.int .i64 r3.1) (.int .i64 0) (.int .i64 0) (.int .i64 0)) (.slice ba l.length bc) (.slice ya YT.1.length yc) l YT.1 r3.2 (w51.setCell ⟨gc, 4, none⟩ (.int .i64 r3.1))) := (TK51.out.set 4 (.int .i64 r3.1)).flat; clear HR51 HG51)
            | (go_at_call 35; (with_reducible refine (CI.out _ _ _ TK51s.out.rd).mono ?_); rintro e w52 ⟨rfl, HR52, HG52⟩; rw [h4.out] at HR52 ⊢; have TK52 := Lib.hid (TK51s.out.call HG52.out HR52.out (by decide) (by decide) (by decide)); have cb52 := TK52.out.row.cell (i := 5) (by decide); have fz52 := TK52.out.row.frozen 5; have TK52s : Hid (TK 70 QR w (w.heap.size + 1) gc (c8 (.int .i64 r1.1) (.slice ba l.length bc) (.int .i64 r2.1) (.slice ya YT.1.length yc) (.int .i64 r3.1) (.int .i64 r4.1) (.int .i64 0) (.int .i64 0)) (.slice ba l.length bc) (.slice ya YT.1.length yc) l YT.1 r4.2 (w52.setCell ⟨gc, 5, none⟩ (.int .i64 r4.1))) := (TK52.out.set 5 (.int .i64 r4.1)).flat; clear HR52 HG52)
            | (go_at_call 35; (with_reducible refine (CI.out _ _ _ TK52s.out.rd).mono ?_); rintro e w53 ⟨rfl, HR53, HG53⟩; rw [h5.out] at HR53 ⊢; have TK53 := Lib.hid (TK52s.out.call HG53.out HR53.out (by decide) (by decide) (by decide)); have cb53 := TK53.out.row.cell (i := 6) (by decide); have fz53 := TK53.out.row.frozen 6; have TK53s : Hid (TK 70 QR w (w.heap.size + 1) gc (c8 (.int .i64 r1.1) (.slice ba l.length bc) (.int .i64 r2.1) (.slice ya YT.1.length yc) (.int .i64 r3.1) (.int .i64 r4.1) (.int .i64 r5.1) (.int .i64 0)) (.slice ba l.length bc) (.slice ya YT.1.length yc) l YT.1 r5.2 (w53.setCell ⟨gc, 6, none⟩ (.int .i64 r5.1))) := (TK53.out.set 6 (.int .i64 r5.1)).flat; clear HR53 HG53)
            | (go_at_call 35; (with_reducible refine (CI.out _ _ _ TK53s.out.rd).mono ?_); rintro e w54 ⟨rfl, HR54, HG54⟩; rw [h6.out] at HR54 ⊢; have TK54 := Lib.hid (TK53s.out.call HG54.out HR54.out (by decide) (by decide) (by decide)); have cb54 := TK54.out.row.cell (i := 7) (by decide); have fz54 := TK54.out.row.frozen 7; have TK54s : Hid (TK 70 QR w (w.heap.size + 1) gc (c8 (.int .i64 r1.1) (.slice ba l.length bc) (.int .i64 r2.1) (.slice ya YT.1.length yc) (.int .i64 r3.1) (.int .i64 r4.1) (.int .i64 r5.1) (.int .i64 r6.1)) (.slice ba l.length bc) (.slice ya YT.1.length yc) l YT.1 r6.2 (w54.setCell ⟨gc, 7, none⟩ (.int .i64 r6.1))) := (TK54.out.set 7 (.int .i64 r6.1)).flat; clear HR54 HG54)
            | (go_at_call 36; (with_reducible refine (CD1.out _ TK54s.out.rd).mono ?_); rintro e w60 ⟨rfl, hb60⟩; have TK60 := Lib.hid (TK54s.out.below hb60); have HRES := heap8 TK60.out.res; (obtain ⟨p0, p1, p2, p3, p4, p5, p6, p7⟩ := row8 TK60.out.row); simp only [c8] at HRES p0 p1 p2 p3 p4 p5 p6 p7; clear hb60 cb51 cb52 cb53 cb54 fz51 fz52 fz53 fz54)
            | (go_at_call 20; (with_reducible refine (CK.out _ TK60.out.at_).mono ?_); rintro e w61 ⟨rfl, hb61⟩; have HB61 := Lib.hid hb61; have hg61 := (hb61.block w.heap.size TK60.out.res.lt).trans HRES; have hgl := TK60.out.row.lt; have m0 := (hb61.cell (p := ⟨gc, 0, none⟩) hgl).trans p0; have m1 := (hb61.cell (p := ⟨gc, 1, none⟩) hgl).trans p1; have m2 := (hb61.cell (p := ⟨gc, 2, none⟩) hgl).trans p2; have m3 := (hb61.cell (p := ⟨gc, 3, none⟩) hgl).trans p3; have m4 := (hb61.cell (p := ⟨gc, 4, none⟩) hgl).trans p4; have m5 := (hb61.cell (p := ⟨gc, 5, none⟩) hgl).trans p5; have m6 := (hb61.cell (p := ⟨gc, 6, none⟩) hgl).trans p6; have m7 := (hb61.cell (p := ⟨gc, 7, none⟩) hgl).trans p7; clear hb61)
            | (refine wpList_store_row rfl 27 (.tmp 2) (.tmp 142) rfl w.heap.size #[.int .i64 0, .slice none 0 0, .int .i64 0, .slice none 0 0, .int .i64 0, .int .i64 0, .int .i64 0, .int .i64 0] rfl rfl 27 _ hg61 sizeC rfl (by simp [Value.oneCell']) ?_))
          try simp only [Exit.inBlock, Exit.then]
          refine bodyPost_ret (v := .tuple #[.agg #[.int .i64 0, .slice none 0 0, .int .i64 0, .slice none 0 0, .int .i64 0, .int .i64 0, .int .i64 0, .int .i64 0], .int .i64 2]) ?_ rfl ?_
          · rw [results_cell_tmp rfl]
            simp [asAddr, run_loadVar_row _ _ _ _ #[.int .i64 0, .slice none 0 0, .int .i64 0, .slice none 0 0, .int .i64 0, .int .i64 0, .int .i64 0, .int .i64 0] _ _ (setRow_in hg61) Try.underlying27 rfl sizeC]
          exact ⟨noc, (by rw [HV2.out]; rfl), (by show _ = _; rw [HV2.out]; rfl), ⟨fun i hi => absurd hi (Nat.not_lt_zero _), fun i hi => absurd hi (Nat.not_lt_zero _), fun i hi => absurd hi (Nat.not_lt_zero _)⟩, (TK60.out.fin HB61.out _).2⟩
end Cat
end Go.Proofs.Ytfincohdchnniaa
