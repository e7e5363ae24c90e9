/- A command that is read: the program's walk. -/
import Derived.Test.YtbjlkeneeodghaaDoorCmdI
set_option linter.unusedSimpArgs false
set_option linter.unusedVariables false
namespace Go.Proofs.YtbjlkeneeodghaaDoor
open Go.RowKit Go.Great
namespace Cmd
open Pen (bs bs_append uintB intB I64 intS uintS doneS)
open In (Strs)
open Cat (Rd Rs QP QR Bx pUint_any pInt_any pDone_any pNew_any)
open Rec (below2 below_al below_dN Stk Stks stkVals stkVals_append stks_of_own)
theorem stand_of_heap {w : World} {g : Nat} {c : CmdIn} (h : w.heap[g]? = some (.cells c.val 24 (0, 0))) : Stand w g c := ⟨c.val, h, rfl, fun i hi => val_get c i hi⟩
/-- A command of that kind with such numbers, and no stacks. -/
def bare (k : Int) (f : Nat → Int) : CmdIn := ⟨k, f, [], none, 0, [], none, 0⟩
theorem Stks.bx {w w' : World} {a : Option Addr} {l : List Stk} {E : Nat → Prop} (h : Stks w a l) (hb : Bx w.heap.size E w w') (hE : ∀ x, a = some x → ¬ E x.block) : Stks w' a l := fun i hi => by
  obtain ⟨b, off, e, hlt, hc, hd⟩ := h i hi
  exact ⟨b, off, e, Nat.lt_of_lt_of_le hlt hb.size, hb.keep hlt (hE _ e) hc, hb.keep hlt (hE _ e) hd⟩
/-- The stacks behind so many parts, and what is left. -/
def partS (o : Cat.Left) : Nat → List Stk × List Stk × Cat.Left
  | 0 => ([], [], o)
  | 1 => ((stS o).1, [], (stS o).2)
  | _ => ((stS o).1, (stS (stS o).2).1, (stS (stS o).2).2)
/-- How far the parts are read. -/
structure PartIs (k : Int) (f : Nat → Int) (o : Cat.Left) (far j : Nat) (c : CmdIn) (o' : Cat.Left) : Prop where
  kind : c.kind = k
  num : c.num = f
  gives : c.gives = (partS o j).1
  wants : c.wants = (partS o j).2.1
  left : o' = (partS o j).2.2
  ga : j = 0 → c.ga = none ∧ c.gc = 0
  wa : j ≤ 1 → c.wa = none ∧ c.wc = 0
  fg : ∀ x, c.ga = some x → far ≤ x.block
  fw : ∀ x, c.wa = some x → far ≤ x.block
theorem PartIs.open {k : Int} {f : Nat → Int} {o o' : Cat.Left} {far j : Nat} {c : CmdIn} (h : PartIs k f o far j c o') (hj : j < 2) : c.cell (20 + j) = .slice none 0 0 := by
  match j, hj with
  | 0, _ =>
    obtain ⟨a, b⟩ := h.ga rfl
    have hg := h.gives
    unfold CmdIn.cell
    rw [if_neg (by decide), if_pos rfl, a, b, hg]
    rfl
  | 1, _ =>
    obtain ⟨a, b⟩ := h.wa (Nat.le_refl _)
    have hg := h.wants
    unfold CmdIn.cell
    rw [if_neg (by decide), if_neg (by decide), if_pos rfl, a, b, hg]
    rfl
/-- One part more. -/
theorem PartIs.more {k : Int} {f : Nat → Int} {o o' o2 : Cat.Left} {far j g gb base : Nat} {c : CmdIn} {w4 w : World} {l : List Stk} (h : PartIs k f o far j c o') (hj : j < 2) (hs : stS o' = (l, o2)) (hN : NC 80 QP w4 g gb base (20 + j) c.cell l o2 w) (hfar : far ≤ base)
    (hl : Stks w c.ga c.gives ∧ Stks w c.wa c.wants) : ∃ c', PartIs k f o far (j + 1) c' o2 ∧ Stand w gb c' ∧ Rd 80 QP w g o2 ∧ Lies w c' := by
  obtain ⟨v, hrow, hown⟩ := hN.row
  obtain ⟨a, cap, rfl, hst⟩ := stks_of_own hown
  have hfr := own_far hown
  match j, hj with
  | 0, _ =>
    have ho : o' = o := h.left
    subst ho
    refine ⟨{ c with gives := l, ga := a, gc := cap }, ⟨h.kind, h.num, by show l = (stS o').1; rw [hs], by show c.wants = _; rw [h.wants]; rfl, by show o2 = (stS o').2; rw [hs], fun e => (by cases e), fun _ => h.wa (by decide), fun x hx => Nat.le_trans hfar (hfr x hx), h.fw⟩, World.rowIs.congr hrow fun i hi => ?_, hN.rd, ⟨hst, hl.2⟩⟩
    by_cases e : i = 20
    · subst e; rfl
    · rw [if_neg (by omega)]
      unfold CmdIn.cell
      simp only [if_neg e]
  | 1, _ =>
    have ho : o' = (stS o).2 := h.left
    subst ho
    refine ⟨{ c with wants := l, wa := a, wc := cap }, ⟨h.kind, h.num, by show c.gives = _; rw [h.gives]; rfl, by show l = (stS (stS o).2).1; rw [hs], by show o2 = (stS (stS o).2).2; rw [hs], fun e => (by cases e), fun e => absurd e (by decide), h.fg, fun x hx => Nat.le_trans hfar (hfr x hx)⟩, World.rowIs.congr hrow fun i hi => ?_, hN.rd, ⟨hl.1, hst⟩⟩
    by_cases e : i = 21
    · subst e; rfl
    · rw [if_neg (by omega)]
      unfold CmdIn.cell
      simp only [if_neg e]
theorem tkS_step {n q : Nat} {l : List Stk} {o : Cat.Left} {r : List Stk × Cat.Left} (hq : q < n) (h : (l ++ (tkS (n - q) o).1, (tkS (n - q) o).2) = r) : ((l ++ [((intS o).1, (intS (intS o).2).1)]) ++ (tkS (n - (q + 1)) (intS (intS o).2).2).1, (tkS (n - (q + 1)) (intS (intS o).2).2).2) = r := by
  have e : n - q = (n - (q + 1)) + 1 := by omega
  rw [e, tkS] at h
  rw [← h]
  simp
set_option maxRecDepth 100000 in
set_option maxHeartbeats 4000000 in
theorem take_any (s : ByteArray) (hs : s.size ≤ 1000000000) (w : World) (ht : Tab w) : Calls Tryd.prog 11 #[.string s] w (GivesT (takeV s.data.toList) w) := by
  have HT := Lib.hid ht
  obtain ⟨u, hu⟩ : ∃ u, Hid (uintS 25 (some s.data.toList) = u) := ⟨_, rfl⟩
  have hub := Pen.uint_bounds 25 (some s.data.toList) (by decide)
  rw [hu.out] at hub
  obtain ⟨hu0, hu1, hu2⟩ := hub
  have CN : Hid (Calls Tryd.prog 33 #[.string s] (w.alloc (.cells zeroC.val 24)) fun e w' => e = .returned (.pointer (some ⟨w.heap.size + 1, 0, none⟩)) ∧ Hid (Rd 80 QP w' (w.heap.size + 1) (some s.data.toList)) ∧ Hid (Below (w.heap.size + 1) (w.alloc (.cells zeroC.val 24)) w')) := by
    have h := pNew_any s hs (w.alloc (.cells zeroC.val 24))
    rw [show (w.alloc (.cells zeroC.val 24)).heap.size = w.heap.size + 1 from by simp] at h
    exact h
  have CU : Hid (∀ g o most W, Rd 80 QP W g o → Calls Tryd.prog 34 #[.pointer (some ⟨g, 0, none⟩), .int .i64 most] W (Rs 80 QP W g (uintS most o))) := fun g o most W h => pUint_any g o most W h
  have CI : Hid (∀ g o W, Rd 80 QP W g o → Calls Tryd.prog 35 #[.pointer (some ⟨g, 0, none⟩)] W (Rs 80 QP W g (intS o))) := fun g o W h => pInt_any g o W h
  have CE : Hid (∀ g o W, Rd 80 QP W g o → Calls Tryd.prog 36 #[.pointer (some ⟨g, 0, none⟩)] W fun e w' => e = .returned (.bool (doneS o)) ∧ W = w') := fun g o W h => pDone_any g o W h
  have CF : Hid (∀ W, Tab W → Calls Tryd.prog 21 #[.int .i64 u.1] W (Gives (fn u.1) W)) := fun W h => fields_any u.1 W h
  have CD : Hid (∀ g i W, i < 19 → Calls Tryd.prog 29 #[.pointer (some ⟨g, 0, none⟩), .string (nm i)] W fun e w' => e = .returned (.pointer (some ⟨g, 1 + i, none⟩)) ∧ W = w') := fun g i W hi => by have := field_any g (nm i) W; rw [place_nm hi] at this; exact this
  unfold Rs at *
  obtain ⟨m, hm⟩ : ∃ m, Hid ((fn u.1).length = m) := ⟨_, rfl⟩
  have HFI : Hid ((fi u.1).length = m) := by show _ = _; have := hm.out; unfold fn at this; rwa [List.length_map] at this
  have hm1 : m ≤ 11 := by rw [← HFI.out]; exact fi_len u.1
  obtain ⟨R, hR⟩ : ∃ R, Hid (tkN (fi u.1) (fun _ => 0) u.2 = R) := ⟨_, rfl⟩
  obtain ⟨TV, hTV⟩ : ∃ t, Hid (takeV s.data.toList = t) := ⟨_, rfl⟩
  rw [hTV.out]
  clear ht hs
  go_enter Tryd.func11, Tryd.ntmps11
  go_upto_region 3 with (first
    | (go_at_call 33; (refine CN.out.mono ?_); rintro e w1 ⟨rfl, HR1, HB1⟩; have HZ1 : Hid (w1.heap[w.heap.size]? = some (.cells zeroC.val 24 (0, 0))) := (HB1.out.block w.heap.size (by omega)).trans (heap_alloc_new w _))
    | (go_at_call 34; (with_reducible refine (CU.out _ _ 25 _ HR1.out).mono ?_); rintro e w2 ⟨rfl, HR2, HG2⟩; rw [hu.out] at HR2 ⊢)
    | (refine wpList_buildTo rfl 24 _ rfl (some 15) rfl (bare u.1 fun _ => 0).val (by as_aux_lemma => kernel_rfl) ?_)
    | (refine store_cmd rfl (.tmp 5) (.tmp 15) rfl rfl w2.heap.size (bare u.1 fun _ => 0) zeroC rfl rfl (heap_alloc_new w2 _) ?_))
  refine wp_named fun W0 hW0 => ?_
  have HS0 : Hid (Stand W0 w2.heap.size (bare u.1 fun _ => 0)) := by rw [hW0]; exact stand_of_heap (setRow_cmd _ (c0 := zeroC) (heap_alloc_new w2 _))
  have HB20 : Hid (Below w2.heap.size w2 W0) := by rw [hW0]; exact below_setRow (below_al (Below.refl _ _) _) _ (Nat.le_refl _) _
  clear hW0
  have hs1 : w.heap.size + 1 < w1.heap.size := HR1.out.lt
  have hs2 : w1.heap.size ≤ w2.heap.size := HG2.out.size
  have HZ0 : Hid (W0.heap[w.heap.size]? = some (.cells zeroC.val 24 (0, 0))) := (HB20.out.block _ (by omega)).trans ((HG2.out.block _ (by omega) (fun e => by have := Option.some.inj e; omega)).trans HZ1.out)
  have HR0 := Lib.hid (HR2.out.below HB20.out)
  have HW1 : Hid (Below w.heap.size w w1) := ((Below.refl w.heap.size w).alloc (Nat.le_refl _) _).trans (HB1.out.mono (by omega))
  have HW2 : Hid (Below w.heap.size w w2) := HW1.out.grown HG2.out (by omega) (fun k hk => by cases hk; omega)
  have HW0 : Hid (Below w.heap.size w W0) := HW2.out.trans (HB20.out.mono (by omega))
  have hgl : w.heap.size + 1 < w2.heap.size := by omega
  have hgl0 : w2.heap.size < W0.heap.size := World.rowIs.lt HS0.out
  have hA : w.heap.size < w.heap.size + 1 := by omega
  clear HR1 HB1 HZ1 HR2 HG2 HB20 hs1 hs2 HW1 HW2 CN
  generalize w.heap.size + 1 = g at *
  generalize w2.heap.size = gb at *
  obtain ⟨b0, -, -⟩ := HS0.out.three
  have b0' : W0.cell? ⟨gb, 0, none⟩ = some (.int .i64 u.1) := b0
  clear b0
  go_wp2_with (go_at_call 21; (with_reducible refine (CF.out _ (HT.out.below HW0.out)).mono ?_); rintro e w3 ⟨a3, k3, rfl, HF3, HB3, HFAR⟩; rw [hm.out])
  have HS3 := Lib.hid (HS0.out.below HB3.out)
  have HR3 := Lib.hid (HR0.out.below HB3.out)
  have hs3 : W0.heap.size ≤ w3.heap.size := HB3.out.size
  have HZ3 : Hid (w3.heap[w.heap.size]? = some (.cells zeroC.val 24 (0, 0))) := (HB3.out.block _ (by omega)).trans HZ0.out
  have HW3 := Lib.hid (below2 HW0.out HB3.out)
  go_loopw [21] (fun i wr => ∃ (k : Nat) (f : Nat → Int) (o : Cat.Left), k ≤ m ∧ i = .int .i64 k ∧ Hid (tkN ((fi u.1).drop k) f o = R) ∧ Hid (Stand wr gb (bare u.1 f)) ∧ Hid (Rd 80 QP wr g o) ∧ Hid (Bx w3.heap.size (fun k => k = g ∨ k = gb) w3 wr)) (fun i _ => m - (intOf i).toNat)
  case atStart => exact ⟨0, fun _ => 0, u.2, by omega, rfl, hR, HS3, HR3, Bx.refl _ _ _⟩
  case round =>
    obtain ⟨k, f, o, hk, rfl, HTK, HSr, HRr, HXr⟩ := hrel
    by_cases hlt : k < m
    · obtain ⟨b2, off2, rfl, hbl2, hc2⟩ := HF3.out k (by rw [hm.out]; exact hlt)
      obtain ⟨e1, hi19⟩ := fn_get u.1 k (by rw [HFI.out]; exact hlt)
      rw [e1] at hc2
      have hfar : W0.heap.size ≤ b2 := HFAR.out _ rfl
      have hcr := HXr.out.keep hbl2 (by omega) hc2
      have HTK' : Hid (tkN ((fi u.1).drop (k + 1)) (fun j => if j = (fi u.1).getD k 0 then (intS o).1 else f j) (intS o).2 = R) := by
        have hlt' : k < (fi u.1).length := by rw [HFI.out]; exact hlt
        have h := HTK.out
        rw [List.drop_eq_getElem_cons hlt'] at h
        rw [show (fi u.1).getD k 0 = (fi u.1)[k] from by rw [List.getD_eq_getElem?_getD, List.getElem?_eq_getElem hlt']; rfl]
        exact h
      clear HTK e1 hc2
      have hlt1 : (k : Int) < (m : Int) := by omega
      have d1 : decide ((k : Int) < (m : Int)) = true := decide_eq_true hlt1
      have hk0 : (0 : Int) ≤ k := by omega
      generalize (fi u.1).getD k 0 = I at *
      have hsr : w3.heap.size ≤ wr.heap.size := HXr.out.size
      obtain ⟨r, hr⟩ : ∃ r, Hid (intS o = r) := ⟨_, rfl⟩
      rw [hr.out] at HTK'
      go_wp2_with (first
        | (go_at_call 29; (with_reducible refine (CD.out gb I _ hi19).mono ?_); rintro e w4 ⟨rfl, rfl⟩)
        | (go_at_call 35; (with_reducible refine (CI.out _ _ _ HRr.out).mono ?_); rintro e w5 ⟨rfl, HR5, HG5⟩; rw [hr.out] at HR5 ⊢; have HS5 : Hid (Stand w5 gb (bare u.1 f)) := row_grown HSr.out HG5.out (fun e => by have := Option.some.inj e; omega); have cx5 := HS5.out.num I hi19; have fx5 := num_frozen HS5.out (1 + I)))
      go_roundw
      case rel => exact ⟨k + 1, (fun j => if j = I then r.1 else f j), r.2, by omega, by go_num, HTK', HS5.out.set I hi19 r.1, HR5.out.set (by show gb ≠ g; omega) _, (HXr.out.grown HG5.out hsr (fun k hk => .inr (.inl (by cases hk; rfl)))).set _ _ (.inr (.inr rfl))⟩
      case measure => simp [intOf]; omega
    · have hke : k = m := by omega
      have n1 : ¬ (k : Int) < (m : Int) := by omega
      have d1 : decide ((k : Int) < (m : Int)) = false := decide_eq_false n1
      have HRe : Hid ((f, o) = R) := by
        have h := HTK.out
        rw [hke, ← HFI.out, List.drop_length] at h
        exact h
      subst hke
      clear HTK HF3 HFAR HR3 HS3 HR0 HS0
      obtain ⟨k0, -, -⟩ := HSr.out.three
      have k0' : wr.cell? ⟨gb, 0, none⟩ = some (.int .i64 u.1) := k0
      clear k0
      have HZr : Hid (wr.heap[w.heap.size]? = some (.cells zeroC.val 24 (0, 0))) := (HXr.out.block _ (by omega) (by omega)).trans HZ3.out
      by_cases h14 : u.1 = 14
      · have d14 : (u.1 == 14) = true := beq_iff_eq.2 h14
        have hRe := HRe.out
        subst hRe
        obtain ⟨i0, hi0, hz0, hz1, hz2⟩ := info_parts stkinfo
        go_wp2
        refine wp_named fun W1 hW1 => ?_
        have HP : Hid (W1.cell? ⟨wr.heap.size, 0, none⟩ = some (.pointer (some ⟨gb, 20 + 0, none⟩)) ∧ W1.cell? ⟨wr.heap.size, 1, none⟩ = some (.pointer (some ⟨gb, 20 + 1, none⟩))) := by rw [hW1]; exact ⟨by simp [go_sem], by simp [go_sem]⟩
        have HBW : Hid (Below wr.heap.size wr W1) := by rw [hW1]; exact below_al (Below.refl _ _) _
        have hgP : wr.heap.size < W1.heap.size := by rw [hW1]; simp
        clear hW1
        have hwr : w3.heap.size ≤ wr.heap.size := HXr.out.size
        have HS1 := Lib.hid (HSr.out.below HBW.out)
        have HR1 := Lib.hid (HRr.out.below HBW.out)
        have HZ1 : Hid (W1.heap[w.heap.size]? = some (.cells zeroC.val 24 (0, 0))) := (HBW.out.block _ (by omega)).trans HZr.out
        have HW1 : Hid (Below w.heap.size w W1) := by
          have hx := HXr.out
          have h1 : Below w.heap.size w wr := HW3.out.trans ⟨hx.os, hx.tape, hx.output, hx.size, fun j hj => hx.block j (by omega) (by omega)⟩
          exact below2 h1 HBW.out
        have hgPg : wr.heap.size ≠ g ∧ wr.heap.size ≠ gb := ⟨by omega, by omega⟩
        have hA1 : w.heap.size < W1.heap.size := by omega
        have hg1 : g < W1.heap.size ∧ gb < W1.heap.size := ⟨by omega, by omega⟩
        have HP0 : Hid (PartIs u.1 f o W1.heap.size 0 (bare u.1 f) o) := ⟨rfl, rfl, rfl, rfl, rfl, fun _ => ⟨rfl, rfl⟩, fun _ => ⟨rfl, rfl⟩, fun x hx => (by cases hx), fun x hx => (by cases hx)⟩
        have HL1 : Hid (Lies W1 (bare u.1 f)) := ⟨fun i hi => absurd hi (Nat.not_lt_zero _), fun i hi => absurd hi (Nat.not_lt_zero _)⟩
        clear HSr HRr HXr HZr HW3 HZ3 HBW k0'
        generalize wr.heap.size = gP at *
        go_loopw [38] (fun i wz => ∃ (j : Nat) (c' : CmdIn) (o' : Cat.Left), j ≤ 2 ∧ i = .int .i64 j ∧ Hid (PartIs u.1 f o W1.heap.size j c' o') ∧ Hid (Stand wz gb c') ∧ Hid (Rd 80 QP wz g o') ∧ Hid (Lies wz c') ∧ Hid (Bx W1.heap.size (fun k => k = g ∨ k = gb) W1 wz)) (fun i _ => 2 - (intOf i).toNat)
        case atStart => exact ⟨0, bare u.1 f, o, by omega, rfl, HP0, HS1, HR1, HL1, Bx.refl _ _ _⟩
        case round =>
          obtain ⟨j, c', o', hj, rfl, HPj, HSj, HRj, HLj, HXj⟩ := hrel
          by_cases hj2 : j < 2
          · have hcp := HPj.out.open hj2
            have hptr : wr.cell? ⟨gP, j, none⟩ = some (.pointer (some ⟨gb, 20 + j, none⟩)) := by
              match j, hj2 with
              | 0, _ => exact HXj.out.keep hgP (by omega) HP.out.1
              | 1, _ => exact HXj.out.keep hgP (by omega) HP.out.2
            have hltj : (j : Int) < 2 := by omega
            have dj : decide ((j : Int) < 2) = true := decide_eq_true hltj
            have hj0 : (0 : Int) ≤ j := by omega
            have hszj : W1.heap.size ≤ wr.heap.size := HXj.out.size
            obtain ⟨r, hr⟩ : ∃ r, Hid (uintS 8 o' = r) := ⟨_, rfl⟩
            obtain ⟨r0, r8, -⟩ := Pen.uint_bounds 8 o' (by decide)
            rw [hr.out] at r0 r8
            obtain ⟨n, hn⟩ : ∃ n : Nat, r.1 = (n : Int) := ⟨r.1.toNat, by omega⟩
            have HST : Hid (stS o' = tkS n r.2) := by show _ = _; unfold stS; rw [hr.out, hn]; rfl
            go_wp2_with (go_at_call 34; (with_reducible refine (CU.out _ _ 8 _ HRj.out).mono ?_); rintro e w4 ⟨rfl, HR4, HG4⟩; rw [hr.out] at HR4 ⊢; rw [hn])
            have HW4 : Hid (w4.rowIs gb 24 22 c'.cell) := row_grown HSj.out HG4.out (fun e => by have := Option.some.inj e; omega)
            have hsz4 : wr.heap.size ≤ w4.heap.size := HG4.out.size
            have HX4 : Hid (Bx wr.heap.size (fun k => k = g ∨ k = gb) wr w4) := (Bx.refl _ _ _).grown HG4.out (Nat.le_refl _) (fun k e => .inr (.inl (by cases e; rfl)))
            have HSTK : Hid (∀ X, Bx w4.heap.size (fun k => k = g ∨ k = gb) w4 X → (Stks X c'.ga c'.gives ∧ Stks X c'.wa c'.wants) ∧ Bx W1.heap.size (fun k => k = g ∨ k = gb) W1 X) := fun X hX => by
              have hx := HX4.out.trans (hX.mono hsz4 fun k _ h => h)
              exact ⟨⟨Stks.bx HLj.out.g hx (fun x e => by have := HPj.out.fg x e; omega), Stks.bx HLj.out.w hx (fun x e => by have := HPj.out.fw x e; omega)⟩, HXj.out.trans (hx.mono hszj fun k _ h => h)⟩
            have HN4 : Hid (NC 80 QP w4 g gb w4.heap.size (20 + j) c'.cell [] r.2 w4) := NC.start HR4.out HW4.out hcp
            have hg4 : g < w4.heap.size ∧ gb < w4.heap.size := ⟨by omega, by omega⟩
            have hfar4 : W1.heap.size ≤ w4.heap.size := by omega
            have HT0 : Hid (([] ++ (tkS (n - 0) r.2).1, (tkS (n - 0) r.2).2) = stS o') := by show _ = _; rw [HST.out]; simp
            clear HW4 HX4 HR4 HG4 HSj HRj HLj HXj hptr hcp hr HST
            go_loopw [44] (fun i wy => ∃ (q : Nat) (l : List Stk) (o2 : Cat.Left), q ≤ n ∧ i = .int .i64 q ∧ Hid (l.length = q) ∧ Hid ((l ++ (tkS (n - q) o2).1, (tkS (n - q) o2).2) = stS o') ∧ Hid (NC 80 QP w4 g gb w4.heap.size (20 + j) c'.cell l o2 wy)) (fun i _ => n - (intOf i).toNat)
            case atStart => exact ⟨0, [], r.2, by omega, rfl, rfl, HT0, HN4⟩
            case round =>
              obtain ⟨q, l, o2, hq, rfl, HLEN, HTQ, HNC⟩ := hrel
              by_cases hqn : q < n
              · have hltq : (q : Int) < (n : Int) := by omega
                have dq : decide ((q : Int) < (n : Int)) = true := decide_eq_true hltq
                have HTQ' := Lib.hid (tkS_step hqn HTQ.out)
                obtain ⟨r1, h1⟩ : ∃ r, Hid (intS o2 = r) := ⟨_, rfl⟩
                obtain ⟨r2, h2⟩ : ∃ r, Hid (intS r1.2 = r) := ⟨_, rfl⟩
                rw [h1.out, h2.out] at HTQ'
                have HR := Lib.hid HNC.out.rd
                obtain ⟨v, hrow, hv⟩ := HNC.out.row
                have HV := Lib.hid hv
                have HW := Lib.hid hrow
                have HF := Lib.hid HNC.out.fr
                have HLE := Lib.hid HNC.out.le
                have hll : l.length ≤ 8 := by rw [HLEN.out]; omega
                have hp22 : 20 + j < 22 := by omega
                have cb := hrow.cell (i := 20 + j) hp22
                have fb := hrow.frozen (20 + j)
                simp only [if_true] at cb
                have hgbl : gb < wr.heap.size := World.rowIs.lt hrow
                have hgne : g ≠ gb := by omega
                clear hv hrow HNC HTQ
                generalize 20 + j = p at *
                go_wp2
                go_region_law (first
                  | (go_simp; go_at_call 35; (with_reducible refine (CI.out _ _ _ (Rd.drew HR.out)).mono ?_); rintro e w5 ⟨rfl, HR5, HG5⟩; rw [h1.out] at HR5 ⊢; have hsz5 : wr.heap.size ≤ w5.heap.size := HG5.out.size; have cb5 := cell_grown HG5.out hgbl (fun e => hgne (Option.some.inj e)) cb; have HW5 := Lib.hid (row_grown (World.rowIs.drew HW.out) HG5.out (fun e => hgne (Option.some.inj e))); have HV5 := Lib.hid (kept_of (Own.ownsRow_drew HV.out) HG5.out hg4.1))
                  | (go_simp; go_at_call 35; (with_reducible refine (CI.out _ _ _ HR5.out).mono ?_); rintro e w6 ⟨rfl, HR6, HG6⟩; rw [h2.out] at HR6 ⊢; have cb6 := cell_grown HG6.out (Nat.lt_of_lt_of_le hgbl HG5.out.size) (fun e => hgne (Option.some.inj e)) cb5; have HW6 := Lib.hid (row_grown HW5.out HG6.out (fun e => hgne (Option.some.inj e))); have HV6 := Lib.hid (kept_of HV5.out HG6.out hg4.1); have hvb : v.ownBlock ≠ some gb := (fun e => by have := (HV6.out.lt _ e).1; omega); have hyl6 : gb < w6.heap.size := Nat.lt_of_lt_of_le (Nat.lt_of_lt_of_le hgbl HG5.out.size) HG6.out.size)
                  | (refine step_append_lies _ (by rfl) _ _ _ (by rfl) w4.heap.size 52 i0 _ 2 16 Tryd.underlying22 hi0 hz0 hz1 hz2 rfl (by omega) v l.length _ (by simp [Act.eval]) (HV6.out.alloc _) ⟨w6.heap.size, 0, none⟩ 1 1 [.int .i64 r1.1, .int .i64 r2.1] (by simp [Act.eval]) (by rfl) (World.news_of_block (cs := #[.int .i64 r1.1, .int .i64 r2.1]) (t := 52) (fr := (0, 0)) (heap_alloc_new w6 _)) (by simp [Value.oneCell']) (by omega) (by unfold maxLen; omega) (by omega) (by simp; have := HLE.out; have := hsz5; have := HG6.out.size; omega) (w6.heap.size + 1) (by simp) ?_; intro gg cap9 w7 hown hgr hat hlt; have HO7 := Lib.hid hown; have HG7 := Lib.hid (grw_al _ hgr); have cb7 := cell_grown HG7.out hyl6 hvb cb6; have fb7 := row_grown HW6.out HG7.out hvb; have fb8 := fb7.frozen p; have HW7 := Lib.hid fb7; clear hown hgr hat hlt fb7))
                all_goals try simp only [Exit.inBlock, Exit.then]
                all_goals
                  go_wp2
                  go_roundw
                  case rel => exact ⟨q + 1, l ++ [(r1.1, r2.1)], r2.2, by omega, by go_num, by show _ = _; rw [List.length_append, HLEN.out]; rfl, HTQ', need_end (w := wr.drew) HF.out.drew HLE.out hg4 HG5.out HG6.out HR6.out HV6.out HG7.out HW7.out HO7.out hgne⟩
                  case measure => simp [intOf]; omega
              · have hqe : q = n := by omega
                have n2 : ¬ (q : Int) < (n : Int) := by omega
                have d2 : decide ((q : Int) < (n : Int)) = false := decide_eq_false n2
                have HSO : Hid (stS o' = (l, o2)) := by
                  have h := HTQ.out
                  rw [hqe, Nat.sub_self, tkS, List.append_nil] at h
                  exact h.symm
                obtain ⟨hst, hbx⟩ := HSTK.out _ HNC.out.fr
                obtain ⟨c2, p1, p2, p3, p4⟩ := HPj.out.more hj2 HSO.out HNC.out hfar4 hst
                have P1 := Lib.hid p1
                have P2 := Lib.hid p2
                have P3 := Lib.hid p3
                have P4 := Lib.hid p4
                have P5 := Lib.hid hbx
                clear p1 p2 p3 p4 hbx hst hqe HTQ HNC HSO HSTK
                go_wp2
                go_roundw
                case rel => exact ⟨j + 1, c2, o2, by omega, by go_num, P1, P2, P3, P4, P5⟩
                case measure => simp [intOf]; omega
          · have hj2e : j = 2 := by omega
            have nj : ¬ (j : Int) < 2 := by omega
            have dj : decide ((j : Int) < 2) = false := decide_eq_false nj
            have HRD : Hid (rdC s.data.toList = (⟨u.1, f, (stS o).1, none, 0, (stS (stS o).2).1, none, 0⟩, o')) := by
              show _ = _
              have hL : o' = (stS (stS o).2).2 := by have h := HPj.out.left; rw [hj2e] at h; exact h
              unfold rdC
              rw [hu.out]
              dsimp only
              rw [hR.out, if_pos h14, hL]
            have HEQ : Hid (Eqv c' ⟨u.1, f, (stS o).1, none, 0, (stS (stS o).2).1, none, 0⟩) := by
              have h := HPj.out
              rw [hj2e] at h
              exact ⟨h.kind, h.num, h.gives, h.wants⟩
            have HSX := HSj
            have HRX := HRj
            have HLX := HLj
            have HZX : Hid (wr.heap[w.heap.size]? = some (.cells zeroC.val 24 (0, 0))) := (HXj.out.block _ hA1 (by omega)).trans HZ1.out
            have HWX : Hid (Below w.heap.size w wr) := by
              have hx := HXj.out
              exact HW1.out.trans ⟨hx.os, hx.tape, hx.output, hx.size, fun j hj => hx.block j (by omega) (by omega)⟩
            have HFG : Hid (∀ x, c'.ga = some x → x.block ≠ w.heap.size) := fun x hx => by have := HPj.out.fg x hx; omega
            have HFW : Hid (∀ x, c'.wa = some x → x.block ≠ w.heap.size) := fun x hx => by have := HPj.out.fw x hx; omega
            clear HSj HRj HLj HXj HPj
            have hDm : Hid (∀ d, doneS o' = d → (d = true ∧ k ≠ 0 → TV = (⟨u.1, f, (stS o).1, none, 0, (stS (stS o).2).1, none, 0⟩, 0)) ∧ (¬ (d = true ∧ k ≠ 0) → TV = (zeroC, 2))) := fun d hd => by
              have hne : fi u.1 ≠ [] ↔ k ≠ 0 := by rw [← HFI.out]; simp
              refine ⟨fun q => ?_, fun q => ?_⟩
              · rw [← hTV.out]; unfold takeV; rw [HRD.out, hu.out]; exact if_pos ⟨hd.trans q.1, hne.2 q.2⟩
              · rw [← hTV.out]; unfold takeV; rw [HRD.out, hu.out]; exact if_neg fun hq => q ⟨hd.symm.trans hq.1, hne.1 hq.2⟩
            have CEX : Hid (Calls Tryd.prog 36 #[.pointer (some ⟨g, 0, none⟩)] wr fun e w' => e = .returned (.bool (doneS o')) ∧ wr = w') := CE.out _ _ _ HRX.out
            obtain ⟨d, hd⟩ : ∃ d, doneS o' = d := ⟨_, rfl⟩
            rw [hd] at CEX
            obtain ⟨hT1, hT2⟩ := hDm.out d hd
            have HT1 := Lib.hid hT1
            have HT2 := Lib.hid hT2
            clear hT1 hT2 hDm hd
            cases d with
            | false =>
              have HTV := Lib.hid (HT2.out (by simp))
              go_wp2_with (first
                | (go_at_call 36; (with_reducible refine CEX.out.mono ?_); rintro e w8 ⟨rfl, rfl⟩)
                | (refine wpList_buildTo rfl 24 _ rfl (some 68) rfl zeroC.val (by as_aux_lemma => kernel_rfl) ?_)
                | (refine store_cmd rfl (.tmp 2) (.tmp 68) rfl rfl w.heap.size zeroC zeroC rfl rfl HZX.out ?_))
              try simp only [Exit.inBlock, Exit.then]
              refine bodyPost_ret (v := .tuple #[.agg zeroC.val, .int .i64 2]) (ret_cmd rfl _ _ w.heap.size zeroC _ rfl rfl (setRow_cmd _ HZX.out)) rfl ⟨zeroC, by rw [HTV.out], by show Eqv _ _; rw [HTV.out]; exact Eqv.refl _, Lies.zero _, ?_⟩
              exact below_setRow HWX.out _ (Nat.le_refl _) _
            | true =>
              by_cases hk0 : k = 0
              · have HTV := Lib.hid (HT2.out (by simp [hk0]))
                have dk : ((k : Int) == 0) = true := beq_iff_eq.2 (by omega)
                have hk0' : (k : Int) = 0 := by omega
                go_wp2_with (first
                  | (go_at_call 36; (with_reducible refine CEX.out.mono ?_); rintro e w8 ⟨rfl, rfl⟩)
                  | (refine wpList_buildTo rfl 24 _ rfl (some 68) rfl zeroC.val (by as_aux_lemma => kernel_rfl) ?_)
                  | (refine store_cmd rfl (.tmp 2) (.tmp 68) rfl rfl w.heap.size zeroC zeroC rfl rfl HZX.out ?_))
                try simp only [Exit.inBlock, Exit.then]
                refine bodyPost_ret (v := .tuple #[.agg zeroC.val, .int .i64 2]) (ret_cmd rfl _ _ w.heap.size zeroC _ rfl rfl (setRow_cmd _ HZX.out)) rfl ⟨zeroC, by rw [HTV.out], by show Eqv _ _; rw [HTV.out]; exact Eqv.refl _, Lies.zero _, ?_⟩
                exact below_setRow HWX.out _ (Nat.le_refl _) _
              · have HTV := Lib.hid (HT1.out ⟨rfl, hk0⟩)
                have hk0' : ¬ (k : Int) = 0 := by omega
                have dk : ((k : Int) == 0) = false := beq_eq_false_iff_ne.2 hk0'
                go_wp2_with (first
                  | (go_at_call 36; (with_reducible refine CEX.out.mono ?_); rintro e w8 ⟨rfl, rfl⟩)
                  | (refine load_cmd rfl (.tmp 5) rfl gb rfl (c') HSX.out ?_)
                  | (refine store_cmd rfl (.tmp 2) (.tmp 69) rfl rfl w.heap.size (c') zeroC rfl rfl HZX.out ?_))
                try simp only [Exit.inBlock, Exit.then]
                refine bodyPost_ret (v := .tuple #[.agg (c').val, .int .i64 0]) (ret_cmd rfl _ _ w.heap.size (c') _ rfl rfl (setRow_cmd _ HZX.out)) rfl ⟨c', by rw [HTV.out], by show Eqv _ _; rw [HTV.out]; exact HEQ.out, ⟨Stks.setRow HLX.out.g HFG.out _, Stks.setRow HLX.out.w HFW.out _⟩, ?_⟩
                exact below_setRow HWX.out _ (Nat.le_refl _) _
      · have d14 : (u.1 == 14) = false := beq_eq_false_iff_ne.2 h14
        have hRe := HRe.out
        subst hRe
        have HRD : Hid (rdC s.data.toList = (bare u.1 f, o)) := by show _ = _; unfold rdC; rw [hu.out]; dsimp only; rw [hR.out, if_neg h14]; rfl
        have HSX := HSr
        have HRX := HRr
        have HZX := HZr
        have HWX : Hid (Below w.heap.size w wr) := by
          have hx := HXr.out
          exact HW3.out.trans ⟨hx.os, hx.tape, hx.output, hx.size, fun j hj => hx.block j (by omega) (by omega)⟩
        have HLX : Hid (Lies wr (bare u.1 f)) := ⟨fun i hi => absurd hi (Nat.not_lt_zero _), fun i hi => absurd hi (Nat.not_lt_zero _)⟩
        have HFG : Hid (∀ x, (bare u.1 f).ga = some x → x.block ≠ w.heap.size) := fun x hx => by cases hx
        have HFW : Hid (∀ x, (bare u.1 f).wa = some x → x.block ≠ w.heap.size) := fun x hx => by cases hx
        have HEQ : Hid (Eqv (bare u.1 f) (bare u.1 f)) := Eqv.refl _
        have hDm : Hid (∀ d, doneS o = d → (d = true ∧ k ≠ 0 → TV = (bare u.1 f, 0)) ∧ (¬ (d = true ∧ k ≠ 0) → TV = (zeroC, 2))) := fun d hd => by
          have hne : fi u.1 ≠ [] ↔ k ≠ 0 := by rw [← HFI.out]; simp
          refine ⟨fun q => ?_, fun q => ?_⟩
          · rw [← hTV.out]; unfold takeV; rw [HRD.out, hu.out]; exact if_pos ⟨hd.trans q.1, hne.2 q.2⟩
          · rw [← hTV.out]; unfold takeV; rw [HRD.out, hu.out]; exact if_neg fun hq => q ⟨hd.symm.trans hq.1, hne.1 hq.2⟩
        have CEX : Hid (Calls Tryd.prog 36 #[.pointer (some ⟨g, 0, none⟩)] wr fun e w' => e = .returned (.bool (doneS o)) ∧ wr = w') := CE.out _ _ _ HRX.out
        obtain ⟨d, hd⟩ : ∃ d, doneS o = d := ⟨_, rfl⟩
        rw [hd] at CEX
        obtain ⟨hT1, hT2⟩ := hDm.out d hd
        have HT1 := Lib.hid hT1
        have HT2 := Lib.hid hT2
        clear hT1 hT2 hDm hd
        cases d with
        | false =>
          have HTV := Lib.hid (HT2.out (by simp))
          go_wp2_with (first
            | (go_at_call 36; (with_reducible refine CEX.out.mono ?_); rintro e w8 ⟨rfl, rfl⟩)
            | (refine wpList_buildTo rfl 24 _ rfl (some 68) rfl zeroC.val (by as_aux_lemma => kernel_rfl) ?_)
            | (refine store_cmd rfl (.tmp 2) (.tmp 68) rfl rfl w.heap.size zeroC zeroC rfl rfl HZX.out ?_))
          try simp only [Exit.inBlock, Exit.then]
          refine bodyPost_ret (v := .tuple #[.agg zeroC.val, .int .i64 2]) (ret_cmd rfl _ _ w.heap.size zeroC _ rfl rfl (setRow_cmd _ HZX.out)) rfl ⟨zeroC, by rw [HTV.out], by show Eqv _ _; rw [HTV.out]; exact Eqv.refl _, Lies.zero _, ?_⟩
          exact below_setRow HWX.out _ (Nat.le_refl _) _
        | true =>
          by_cases hk0 : k = 0
          · have HTV := Lib.hid (HT2.out (by simp [hk0]))
            have dk : ((k : Int) == 0) = true := beq_iff_eq.2 (by omega)
            have hk0' : (k : Int) = 0 := by omega
            go_wp2_with (first
              | (go_at_call 36; (with_reducible refine CEX.out.mono ?_); rintro e w8 ⟨rfl, rfl⟩)
              | (refine wpList_buildTo rfl 24 _ rfl (some 68) rfl zeroC.val (by as_aux_lemma => kernel_rfl) ?_)
              | (refine store_cmd rfl (.tmp 2) (.tmp 68) rfl rfl w.heap.size zeroC zeroC rfl rfl HZX.out ?_))
            try simp only [Exit.inBlock, Exit.then]
            refine bodyPost_ret (v := .tuple #[.agg zeroC.val, .int .i64 2]) (ret_cmd rfl _ _ w.heap.size zeroC _ rfl rfl (setRow_cmd _ HZX.out)) rfl ⟨zeroC, by rw [HTV.out], by show Eqv _ _; rw [HTV.out]; exact Eqv.refl _, Lies.zero _, ?_⟩
            exact below_setRow HWX.out _ (Nat.le_refl _) _
          · have HTV := Lib.hid (HT1.out ⟨rfl, hk0⟩)
            have hk0' : ¬ (k : Int) = 0 := by omega
            have dk : ((k : Int) == 0) = false := beq_eq_false_iff_ne.2 hk0'
            go_wp2_with (first
              | (go_at_call 36; (with_reducible refine CEX.out.mono ?_); rintro e w8 ⟨rfl, rfl⟩)
              | (refine load_cmd rfl (.tmp 5) rfl gb rfl (bare u.1 f) HSX.out ?_)
              | (refine store_cmd rfl (.tmp 2) (.tmp 69) rfl rfl w.heap.size (bare u.1 f) zeroC rfl rfl HZX.out ?_))
            try simp only [Exit.inBlock, Exit.then]
            refine bodyPost_ret (v := .tuple #[.agg (bare u.1 f).val, .int .i64 0]) (ret_cmd rfl _ _ w.heap.size (bare u.1 f) _ rfl rfl (setRow_cmd _ HZX.out)) rfl ⟨bare u.1 f, by rw [HTV.out], by show Eqv _ _; rw [HTV.out]; exact HEQ.out, ⟨Stks.setRow HLX.out.g HFG.out _, Stks.setRow HLX.out.w HFW.out _⟩, ?_⟩
            exact below_setRow HWX.out _ (Nat.le_refl _) _
end Cmd
end Go.Proofs.YtbjlkeneeodghaaDoor
