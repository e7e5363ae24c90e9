/- Replies taken from bytes: the walks. -/
import Derived.Test.YtmaddebfoefckaaDoorRepW
set_option linter.unusedSimpArgs false
set_option linter.unusedVariables false
namespace Go.Proofs.YtmaddebfoefckaaDoor
open Go.RowKit Go.Great
namespace Rep
open Pen (bs bs_append uintB intB I64 intS uintS doneS)
open Go.Lib (decDigits itoa)
open Cat (Rd Rs QP QR Bx pNew_any pUint_any pInt_any pDone_any rrU_any rrI_any rrD_any rrNew)
theorem row_grown {w w' : World} {b n : Nat} {t : TypeId} {f : Nat → Value} {o : Option Nat} (h : w.rowIs b t n f) (hg : w.grownBy w' o) (hne : o ≠ some b) : w'.rowIs b t n f := h.of_block (hg.block b h.lt fun e => hne e.symm)
theorem Rp.set1 {w : World} {g : Nat} {r : RepIn} (h : Rp w g r) (x : Int) : Rp (w.setCell ⟨g, 1, none⟩ (.int .i64 x)) g { r with id := x } := by
  refine World.rowIs.congr (World.rowIs.set h 1 _) fun i hi => ?_
  match i, hi with
  | 0, _ => rfl
  | 1, _ => rfl
  | 2, _ => rfl
  | 3, _ => rfl
  | 4, _ => rfl
theorem Rp.set2 {w : World} {g : Nat} {r : RepIn} (h : Rp w g r) (x : Int) : Rp (w.setCell ⟨g, 2, none⟩ (.int .i64 x)) g { r with n := x } := by
  refine World.rowIs.congr (World.rowIs.set h 2 _) fun i hi => ?_
  match i, hi with
  | 0, _ => rfl
  | 1, _ => rfl
  | 2, _ => rfl
  | 3, _ => rfl
  | 4, _ => rfl
theorem Rp.set3 {w : World} {g : Nat} {r : RepIn} (h : Rp w g r) (x : Int) : Rp (w.setCell ⟨g, 3, none⟩ (.int .i64 x)) g { r with st := x } := by
  refine World.rowIs.congr (World.rowIs.set h 3 _) fun i hi => ?_
  match i, hi with
  | 0, _ => rfl
  | 1, _ => rfl
  | 2, _ => rfl
  | 3, _ => rfl
  | 4, _ => rfl
theorem Rp.set4 {w : World} {g : Nat} {r : RepIn} (h : Rp w g r) (x : Int) : Rp (w.setCell ⟨g, 4, none⟩ (.int .i64 x)) g { r with ti := x } := by
  refine World.rowIs.congr (World.rowIs.set h 4 _) fun i hi => ?_
  match i, hi with
  | 0, _ => rfl
  | 1, _ => rfl
  | 2, _ => rfl
  | 3, _ => rfl
  | 4, _ => rfl
theorem below_grown {k : Nat} {a b c : World} {g : Nat} (h : Below k a b) (hg : b.grownBy c (some g)) (hk : k ≤ b.heap.size) (hkg : k ≤ g) : Below k a c := h.grown hg hk (fun j e => by cases e; exact hkg)
theorem lt_of_heap {w : World} {g : Nat} {o : Obj} (h : w.heap[g]? = some o) : g < w.heap.size := (Array.getElem?_eq_some_iff.1 h).1
set_option maxRecDepth 100000 in
set_option maxHeartbeats 4000000 in
theorem take_any (s : ByteArray) (hs : s.size ≤ 1000000000) (w : World) : Calls Tryd.prog 8 #[.string s] w fun e w' => e = .returned (.tuple #[.agg (takeV s.data.toList).1.val, .int .i64 (takeV s.data.toList).2]) ∧ Below w.heap.size w w' := by
  obtain ⟨u, hu⟩ : ∃ u, Hid (uintS 14 (some s.data.toList) = u) := ⟨_, rfl⟩
  have hub := Pen.uint_bounds 14 (some s.data.toList) (by decide)
  rw [hu.out] at hub
  obtain ⟨hu0, hu1, hu2⟩ := hub
  have CN : Hid (Calls Tryd.prog 20 #[.string s] (w.alloc (.cells (ofE 0).val 24)) fun e w' => e = .returned (.pointer (some ⟨w.heap.size + 1, 0, none⟩)) ∧ Hid (Rd 55 QP w' (w.heap.size + 1) (some s.data.toList)) ∧ Hid (Below (w.heap.size + 1) (w.alloc (.cells (ofE 0).val 24)) w')) := by
    have h := pNew_any s hs (w.alloc (.cells (ofE 0).val 24))
    rw [show (w.alloc (.cells (ofE 0).val 24)).heap.size = w.heap.size + 1 from by simp] at h
    exact h
  have CO : Hid (∀ W, Calls Tryd.prog 12 #[.int .i64 u.1] W fun x w' => x = .returned (.agg (ofE u.1).val) ∧ Below W.heap.size W w') := fun W => of_any u.1 W
  have CU : Hid (∀ g o most W, Rd 55 QP W g o → Calls Tryd.prog 21 #[.pointer (some ⟨g, 0, none⟩), .int .i64 most] W (Rs 55 QP W g (uintS most o))) := fun g o most W h => pUint_any g o most W h
  have CI : Hid (∀ g o W, Rd 55 QP W g o → Calls Tryd.prog 22 #[.pointer (some ⟨g, 0, none⟩)] W (Rs 55 QP W g (intS o))) := fun g o W h => pInt_any g o W h
  have CE : Hid (∀ g o W, Rd 55 QP W g o → Calls Tryd.prog 23 #[.pointer (some ⟨g, 0, none⟩)] W fun e w' => e = .returned (.bool (doneS o)) ∧ W = w') := fun g o W h => pDone_any g o W h
  unfold Rs at *
  obtain ⟨TV, hTV⟩ : ∃ t, Hid (takeV s.data.toList = t) := ⟨_, rfl⟩
  rw [hTV.out]
  clear hs
  go_enter Tryd.func8, Tryd.ntmps8
  go_upto_region 3 with (first
    | (go_at_call 20; (refine CN.out.mono ?_); rintro e w1 ⟨rfl, HR1, HB1⟩; have HZ1 : Hid (w1.heap[w.heap.size]? = some (.cells (ofE 0).val 24 (0, 0))) := (HB1.out.block w.heap.size (by omega)).trans (heap_alloc_new w _))
    | (go_at_call 21; (with_reducible refine (CU.out _ _ 14 _ HR1.out).mono ?_); rintro e w2 ⟨rfl, HR2, HG2⟩; rw [hu.out] at HR2 ⊢)
    | (go_at_call 12; (with_reducible refine (CO.out _).mono ?_); rintro e w3 ⟨rfl, HB3⟩)
    | (refine store_rep rfl (.tmp 5) (.tmp 10) rfl rfl w3.heap.size (ofE u.1) (ofE 0) rfl rfl (heap_alloc_new w3 _) ?_))
  refine wp_named fun W0 hW0 => ?_
  have HS0 : Hid (Rp W0 w3.heap.size (ofE u.1)) := by rw [hW0]; exact rp_of_heap (setRow_rep _ (c0 := ofE 0) (heap_alloc_new w3 _))
  have HB30 : Hid (Below w3.heap.size w3 W0) := by rw [hW0]; exact below_setRow (below_al (Below.refl _ _) _) _ (Nat.le_refl _) _
  clear hW0
  have hs1 : w.heap.size + 1 < w1.heap.size := HR1.out.lt
  have hs2 : w1.heap.size ≤ w2.heap.size := HG2.out.size
  have hs3 : w2.heap.size ≤ w3.heap.size := HB3.size
  have HB20 : Hid (Below w2.heap.size w2 W0) := below2 HB3 HB30.out
  have HZ0 : Hid (W0.heap[w.heap.size]? = some (.cells (ofE 0).val 24 (0, 0))) := (HB20.out.block _ (by omega)).trans ((HG2.out.block _ (by omega) (fun e => by have := Option.some.inj e; omega)).trans HZ1.out)
  have HR0 := Lib.hid (HR2.out.below HB20.out)
  have HW1 : Hid (Below w.heap.size w w1) := ((Below.refl w.heap.size w).alloc (Nat.le_refl _) _).trans (HB1.out.mono (by omega))
  have HW2 : Hid (Below w.heap.size w w2) := HW1.out.grown HG2.out (by omega) (fun k hk => by cases hk; omega)
  have HW0 : Hid (Below w.heap.size w W0) := HW2.out.trans (HB20.out.mono (by omega))
  clear HR1 HB1 HZ1 HR2 HG2 HB20 HB3 HB30 HW1 HW2 CN
  have hgl : w.heap.size + 1 < w3.heap.size := by omega
  generalize w3.heap.size = gb at *
  have hgb0 : gb < W0.heap.size := World.rowIs.lt HS0.out
  have hA : w.heap.size < w.heap.size + 1 := by omega
  generalize w.heap.size + 1 = g at *
  have hgne : g ≠ gb := by omega
  obtain ⟨b0, -⟩ := HS0.out.five
  have b0' : W0.cell? ⟨gb, 0, none⟩ = some (.int .i64 u.1) := b0
  clear b0
  by_cases hz : u.1 = 0
  · have dz : (u.1 == 0) = true := beq_iff_eq.2 hz
    obtain ⟨a, ha⟩ : ∃ a, Hid (intS u.2 = a) := ⟨_, rfl⟩
    obtain ⟨b, hb⟩ : ∃ b, Hid (intS a.2 = b) := ⟨_, rfl⟩
    obtain ⟨c, hc⟩ : ∃ c, Hid (intS b.2 = c) := ⟨_, rfl⟩
    obtain ⟨d, hd⟩ : ∃ d, Hid (intS c.2 = d) := ⟨_, rfl⟩
    have HRD : Hid (rdR s.data.toList = (⟨0, a.1, b.1, c.1, d.1⟩, d.2)) := by
      show _ = _
      unfold rdR
      rw [hu.out]
      dsimp only
      rw [if_pos hz, ha.out, hb.out, hc.out, hd.out]
    have HE0 : Hid (ofE u.1 = ofE 0) := by show _ = _; rw [hz]
    rw [HE0.out] at HS0
    go_upto_region 5 with (first
      | (go_at_call 22; (with_reducible refine (CI.out _ _ _ HR0.out).mono ?_); rintro e w4 ⟨rfl, HR4, HG4⟩; rw [ha.out] at HR4 ⊢)
      | (go_at_call 22; (with_reducible refine (CI.out _ _ _ HR4.out).mono ?_); rintro e w5 ⟨rfl, HR5, HG5⟩; rw [hb.out] at HR5 ⊢)
      | (go_at_call 22; (with_reducible refine (CI.out _ _ _ HR5.out).mono ?_); rintro e w6 ⟨rfl, HR6, HG6⟩; rw [hc.out] at HR6 ⊢)
      | (go_at_call 22; (with_reducible refine (CI.out _ _ _ HR6.out).mono ?_); rintro e w7 ⟨rfl, HR7, HG7⟩; rw [hd.out] at HR7 ⊢; have hz4 := HG4.out.size; have hz5 := HG5.out.size; have hz6 := HG6.out.size; have hz7 := HG7.out.size; have gn : some g ≠ some gb := (fun e => hgne (Option.some.inj e)); have HS7 : Hid (Rp w7 gb (ofE 0)) := row_grown (row_grown (row_grown (row_grown HS0.out HG4.out gn) HG5.out gn) HG6.out gn) HG7.out gn; have HW7 : Hid (Below w.heap.size w w7) := below_grown (below_grown (below_grown (below_grown HW0.out HG4.out (by omega) (by omega)) HG5.out (by omega) (by omega)) HG6.out (by omega) (by omega)) HG7.out (by omega) (by omega); have ge : some g ≠ some w.heap.size := (fun e => by have := Option.some.inj e; omega); have HZ7 : Hid (w7.heap[w.heap.size]? = some (.cells (ofE 0).val 24 (0, 0))) := (HG7.out.block _ (by omega) ge.symm).trans ((HG6.out.block _ (by omega) ge.symm).trans ((HG5.out.block _ (by omega) ge.symm).trans ((HG4.out.block _ (by omega) ge.symm).trans HZ0.out))))
      | (refine store_rep rfl (.tmp 5) (.tmp 22) rfl rfl gb ⟨0, a.1, b.1, c.1, d.1⟩ (ofE 0) rfl rfl HS7.out.heap ?_))
    refine wp_named fun WX hWX => ?_
    have HSX : Hid (Rp WX gb ⟨0, a.1, b.1, c.1, d.1⟩) := by rw [hWX]; exact rp_of_heap (setRow_rep _ HS7.out.heap)
    have HRX : Hid (Rd 55 QP WX g d.2) := by rw [hWX]; exact HR7.out.of_block (Go.setRow_other _ _ _ _ hgne)
    have HZX : Hid (WX.heap[w.heap.size]? = some (.cells (ofE 0).val 24 (0, 0))) := by rw [hWX]; exact (Go.setRow_other _ _ _ _ (by omega)).trans HZ7.out
    have HWX : Hid (Below w.heap.size w WX) := by rw [hWX]; exact below_setRow HW7.out gb (by omega) _
    clear hWX HR4 HG4 HR5 HG5 HR6 HG6 HR7 HG7 HS7 HW7 HZ7
    have HT1 : Hid (doneS d.2 = true → TV = ((⟨0, a.1, b.1, c.1, d.1⟩ : RepIn), 0)) := fun hq => by rw [← hTV.out]; unfold takeV; rw [HRD.out]; exact if_pos hq
    have HT2 : Hid (doneS d.2 = false → TV = (ofE 0, 2)) := fun hq => by rw [← hTV.out]; unfold takeV; rw [HRD.out]; exact if_neg (by rw [hq]; decide)
    have CEX : Hid (Calls Tryd.prog 23 #[.pointer (some ⟨g, 0, none⟩)] WX fun e w' => e = .returned (.bool (doneS d.2)) ∧ WX = w') := CE.out _ _ _ HRX.out
    obtain ⟨q, hq⟩ : ∃ q, doneS d.2 = q := ⟨_, rfl⟩
    rw [hq] at CEX
    cases q with
    | false =>
      have HTV := Lib.hid (HT2.out hq)
      clear hq
      go_wp2_with (first | (go_at_call 23; (with_reducible refine CEX.out.mono ?_); rintro e w8 ⟨rfl, rfl⟩; have HZY := HZX; have HWY := HWX; have HSY := HSX) | (refine store_rep rfl (.tmp 2) (.tmp 26) rfl rfl w.heap.size (ofE 0) (ofE 0) rfl rfl HZY.out ?_))
      try simp only [Exit.inBlock, Exit.then]
      refine bodyPost_ret (v := .tuple #[.agg (ofE 0).val, .int .i64 2]) (ret_rep rfl _ _ w.heap.size (ofE 0) _ rfl rfl (setRow_rep _ HZY.out)) rfl ⟨by rw [HTV.out], below_setRow HWY.out _ (Nat.le_refl _) _⟩
    | true =>
      have HTV := Lib.hid (HT1.out hq)
      clear hq
      go_wp2_with (first | (go_at_call 23; (with_reducible refine CEX.out.mono ?_); rintro e w8 ⟨rfl, rfl⟩; have HZY := HZX; have HWY := HWX; have HSY := HSX) | (refine load_rep rfl (.tmp 5) rfl gb rfl ((⟨0, a.1, b.1, c.1, d.1⟩ : RepIn)) HSY.out ?_) | (refine store_rep rfl (.tmp 2) (.tmp 27) rfl rfl w.heap.size ((⟨0, a.1, b.1, c.1, d.1⟩ : RepIn)) (ofE 0) rfl rfl HZY.out ?_))
      try simp only [Exit.inBlock, Exit.then]
      refine bodyPost_ret (v := .tuple #[.agg ((⟨0, a.1, b.1, c.1, d.1⟩ : RepIn)).val, .int .i64 0]) (ret_rep rfl _ _ w.heap.size ((⟨0, a.1, b.1, c.1, d.1⟩ : RepIn)) _ rfl rfl (setRow_rep _ HZY.out)) rfl ⟨by rw [HTV.out], below_setRow HWY.out _ (Nat.le_refl _) _⟩
  · have dz : (u.1 == 0) = false := beq_eq_false_iff_ne.2 hz
    have HRD : Hid (rdR s.data.toList = (ofE u.1, u.2)) := by
      show _ = _
      unfold rdR
      rw [hu.out]
      dsimp only
      rw [if_neg hz]
    have HT1 : Hid (doneS u.2 = true → TV = (ofE u.1, 0)) := fun hq => by rw [← hTV.out]; unfold takeV; rw [HRD.out]; exact if_pos hq
    have HT2 : Hid (doneS u.2 = false → TV = (ofE 0, 2)) := fun hq => by rw [← hTV.out]; unfold takeV; rw [HRD.out]; exact if_neg (by rw [hq]; decide)
    have CEX : Hid (Calls Tryd.prog 23 #[.pointer (some ⟨g, 0, none⟩)] W0 fun e w' => e = .returned (.bool (doneS u.2)) ∧ W0 = w') := CE.out _ _ _ HR0.out
    obtain ⟨q, hq⟩ : ∃ q, doneS u.2 = q := ⟨_, rfl⟩
    rw [hq] at CEX
    cases q with
    | false =>
      have HTV := Lib.hid (HT2.out hq)
      clear hq
      go_wp2_with (first | (go_at_call 23; (with_reducible refine CEX.out.mono ?_); rintro e w8 ⟨rfl, rfl⟩; have HZY := HZ0; have HWY := HW0; have HSY := HS0) | (refine store_rep rfl (.tmp 2) (.tmp 26) rfl rfl w.heap.size (ofE 0) (ofE 0) rfl rfl HZY.out ?_))
      try simp only [Exit.inBlock, Exit.then]
      refine bodyPost_ret (v := .tuple #[.agg (ofE 0).val, .int .i64 2]) (ret_rep rfl _ _ w.heap.size (ofE 0) _ rfl rfl (setRow_rep _ HZY.out)) rfl ⟨by rw [HTV.out], below_setRow HWY.out _ (Nat.le_refl _) _⟩
    | true =>
      have HTV := Lib.hid (HT1.out hq)
      clear hq
      go_wp2_with (first | (go_at_call 23; (with_reducible refine CEX.out.mono ?_); rintro e w8 ⟨rfl, rfl⟩; have HZY := HZ0; have HWY := HW0; have HSY := HS0) | (refine load_rep rfl (.tmp 5) rfl gb rfl (ofE u.1) HSY.out ?_) | (refine store_rep rfl (.tmp 2) (.tmp 27) rfl rfl w.heap.size (ofE u.1) (ofE 0) rfl rfl HZY.out ?_))
      try simp only [Exit.inBlock, Exit.then]
      refine bodyPost_ret (v := .tuple #[.agg (ofE u.1).val, .int .i64 0]) (ret_rep rfl _ _ w.heap.size (ofE u.1) _ rfl rfl (setRow_rep _ HZY.out)) rfl ⟨by rw [HTV.out], below_setRow HWY.out _ (Nat.le_refl _) _⟩
set_option maxRecDepth 100000 in
set_option maxHeartbeats 4000000 in
theorem refTake_any (s : ByteArray) (hs : s.size ≤ 1000000000) (w : World) : Calls Tryd.prog 9 #[.string s] w fun e w' => e = .returned (.tuple #[.agg (takeV s.data.toList).1.val, .int .i64 (takeV s.data.toList).2]) ∧ Below w.heap.size w w' := by
  obtain ⟨u, hu⟩ : ∃ u, Hid (uintS 14 (some s.data.toList) = u) := ⟨_, rfl⟩
  have hub := Pen.uint_bounds 14 (some s.data.toList) (by decide)
  rw [hu.out] at hub
  obtain ⟨hu0, hu1, hu2⟩ := hub
  have HN : Hid (Rd 44 QR ((w.alloc (.cells (ofE 0).val 24)).alloc (.cells #[.string s, .int .i64 0, .bool false] 44)) (w.heap.size + 1) (some s.data.toList)) := by
    have h := rrNew s hs (w.alloc (.cells (ofE 0).val 24))
    rw [show (w.alloc (.cells (ofE 0).val 24)).heap.size = w.heap.size + 1 from by simp] at h
    exact h
  have CU : Hid (∀ g o most W, Rd 44 QR W g o → Calls Tryd.prog 24 #[.pointer (some ⟨g, 0, none⟩), .int .i64 most] W (Rs 44 QR W g (uintS most o))) := fun g o most W h => rrU_any g o most W h
  have CI : Hid (∀ g o W, Rd 44 QR W g o → Calls Tryd.prog 25 #[.pointer (some ⟨g, 0, none⟩)] W (Rs 44 QR W g (intS o))) := fun g o W h => rrI_any g o W h
  have CE : Hid (∀ g o W, Rd 44 QR W g o → Calls Tryd.prog 26 #[.pointer (some ⟨g, 0, none⟩)] W fun e w' => e = .returned (.bool (doneS o)) ∧ Below W.heap.size W w') := fun g o W h => rrD_any g o W h
  unfold Rs at *
  obtain ⟨TV, hTV⟩ : ∃ t, Hid (takeV s.data.toList = t) := ⟨_, rfl⟩
  rw [hTV.out]
  clear hs
  go_enter Tryd.func9, Tryd.ntmps9
  go_upto_region 3 with (go_at_call 24; (refine (CU.out _ _ 14 _ HN.out).mono ?_); rintro e w2 ⟨rfl, HR2, HG2⟩; rw [hu.out] at HR2 ⊢)
  refine wp_named fun W0 hW0 => ?_
  have HS0 : Hid (Rp W0 w2.heap.size (ofE u.1)) := by rw [hW0]; exact rp_new rfl (ofE u.1)
  have HB20 : Hid (Below w2.heap.size w2 W0) := by rw [hW0]; exact below_al (Below.refl _ _) _
  clear hW0
  have hs2 : w.heap.size + 2 ≤ w2.heap.size := by have := HG2.out.size; simp at this; omega
  have HZ0 : Hid (W0.heap[w.heap.size]? = some (.cells (ofE 0).val 24 (0, 0))) := (HB20.out.block _ (by omega)).trans ((HG2.out.block _ (by simp; omega) (fun e => by have := Option.some.inj e; omega)).trans ((heap_alloc_old _ _ (by simp)).trans (heap_alloc_new w _)))
  have HR0 := Lib.hid (HR2.out.below HB20.out)
  have HW2 : Hid (Below w.heap.size w w2) := (below_al (below_al (Below.refl w.heap.size w) _) _).grown HG2.out (by simp; omega) (fun k hk => by cases hk; omega)
  have HW0 : Hid (Below w.heap.size w W0) := HW2.out.trans (HB20.out.mono (by omega))
  clear HR2 HG2 HB20 HW2 HN
  have hgl : w.heap.size + 1 < w2.heap.size := by omega
  generalize w2.heap.size = gb at *
  have hgb0 : gb < W0.heap.size := World.rowIs.lt HS0.out
  have hA : w.heap.size < w.heap.size + 1 := by omega
  generalize w.heap.size + 1 = g at *
  have hgne : g ≠ gb := by omega
  obtain ⟨b0, -⟩ := HS0.out.five
  have b0' : W0.cell? ⟨gb, 0, none⟩ = some (.int .i64 u.1) := b0
  clear b0
  by_cases hz : u.1 = 0
  · have dz : (u.1 == 0) = true := beq_iff_eq.2 hz
    obtain ⟨a, ha⟩ : ∃ a, Hid (intS u.2 = a) := ⟨_, rfl⟩
    obtain ⟨b, hb⟩ : ∃ b, Hid (intS a.2 = b) := ⟨_, rfl⟩
    obtain ⟨c, hc⟩ : ∃ c, Hid (intS b.2 = c) := ⟨_, rfl⟩
    obtain ⟨d, hd⟩ : ∃ d, Hid (intS c.2 = d) := ⟨_, rfl⟩
    have HRD : Hid (rdR s.data.toList = (⟨0, a.1, b.1, c.1, d.1⟩, d.2)) := by
      show _ = _
      unfold rdR
      rw [hu.out]
      dsimp only
      rw [if_pos hz, ha.out, hb.out, hc.out, hd.out]
    have HE0 : Hid (ofE u.1 = ofE 0) := by show _ = _; rw [hz]
    rw [HE0.out] at HS0
    have gn : some g ≠ some gb := (fun e => hgne (Option.some.inj e))
    have ge : some g ≠ some w.heap.size := (fun e => by have := Option.some.inj e; omega)
    go_upto_region 8 with (first
      | (go_at_call 25; (with_reducible refine (CI.out _ _ _ HR0.out).mono ?_); rintro e w4 ⟨rfl, HR4, HG4⟩; rw [ha.out] at HR4 ⊢; have HS4 : Hid (Rp w4 gb (ofE 0)) := row_grown HS0.out HG4.out gn; obtain ⟨x40, x41, -⟩ := HS4.out.five; have f4 := World.rowIs.frozen HS4.out 1; have hz4 := HG4.out.size; have HT4 : Hid (Rp (w4.setCell ⟨gb, 1, none⟩ (.int .i64 a.1)) gb { ofE 0 with id := a.1 }) := HS4.out.set1 a.1; have HQ4 := Lib.hid (HR4.out.set (a := ⟨gb, 1, none⟩) hgne.symm (.int .i64 a.1)))
      | (go_at_call 25; (with_reducible refine (CI.out _ _ _ HQ4.out).mono ?_); rintro e w5 ⟨rfl, HR5, HG5⟩; rw [hb.out] at HR5 ⊢; have HS5 : Hid (Rp w5 gb { ofE 0 with id := a.1 }) := row_grown HT4.out HG5.out gn; obtain ⟨x50, x51, x52, -⟩ := HS5.out.five; have f5 := World.rowIs.frozen HS5.out 2; have hz5 := HG5.out.size; have HT5 : Hid (Rp (w5.setCell ⟨gb, 2, none⟩ (.int .i64 b.1)) gb { ofE 0 with id := a.1, n := b.1 }) := HS5.out.set2 b.1; have HQ5 := Lib.hid (HR5.out.set (a := ⟨gb, 2, none⟩) hgne.symm (.int .i64 b.1)))
      | (go_at_call 25; (with_reducible refine (CI.out _ _ _ HQ5.out).mono ?_); rintro e w6 ⟨rfl, HR6, HG6⟩; rw [hc.out] at HR6 ⊢; have HS6 : Hid (Rp w6 gb { ofE 0 with id := a.1, n := b.1 }) := row_grown HT5.out HG6.out gn; obtain ⟨x60, x61, x62, x63, -⟩ := HS6.out.five; have f6 := World.rowIs.frozen HS6.out 3; have hz6 := HG6.out.size; have HT6 : Hid (Rp (w6.setCell ⟨gb, 3, none⟩ (.int .i64 c.1)) gb { ofE 0 with id := a.1, n := b.1, st := c.1 }) := HS6.out.set3 c.1; have HQ6 := Lib.hid (HR6.out.set (a := ⟨gb, 3, none⟩) hgne.symm (.int .i64 c.1)))
      | (go_at_call 25; (with_reducible refine (CI.out _ _ _ HQ6.out).mono ?_); rintro e w7 ⟨rfl, HR7, HG7⟩; rw [hd.out] at HR7 ⊢; have HS7 : Hid (Rp w7 gb { ofE 0 with id := a.1, n := b.1, st := c.1 }) := row_grown HT6.out HG7.out gn; obtain ⟨x70, x71, x72, x73, x74⟩ := HS7.out.five; have f7 := World.rowIs.frozen HS7.out 4; have hz7 := HG7.out.size))
    refine wp_named fun WX hWX => ?_
    (try simp at hz5); (try simp at hz6); (try simp at hz7)
    have HW4 : Below w.heap.size w (w4.setCell ⟨gb, 1, none⟩ (.int .i64 a.1)) := (below_grown HW0.out HG4.out (by omega) (by omega)).setCell (p := ⟨gb, 1, none⟩) (by show w.heap.size ≤ gb; omega) _
    have HW5 : Below w.heap.size w (w5.setCell ⟨gb, 2, none⟩ (.int .i64 b.1)) := (below_grown HW4 HG5.out (by simp; omega) (by omega)).setCell (p := ⟨gb, 2, none⟩) (by show w.heap.size ≤ gb; omega) _
    have HW6 : Below w.heap.size w (w6.setCell ⟨gb, 3, none⟩ (.int .i64 c.1)) := (below_grown HW5 HG6.out (by simp; omega) (by omega)).setCell (p := ⟨gb, 3, none⟩) (by show w.heap.size ≤ gb; omega) _
    have HW7 : Below w.heap.size w w7 := below_grown HW6 HG7.out (by simp; omega) (by omega)
    have gz : ∀ i v W, (World.setCell W ⟨gb, i, none⟩ v).heap[w.heap.size]? = W.heap[w.heap.size]? := fun i v W => Below.heap_setCell _ _ _ _ (by show w.heap.size ≠ gb; omega)
    have HZ7 : w7.heap[w.heap.size]? = some (.cells (ofE 0).val 24 (0, 0)) := (HG7.out.block _ (by simp; omega) ge.symm).trans ((gz _ _ _).trans ((HG6.out.block _ (by simp; omega) ge.symm).trans ((gz _ _ _).trans ((HG5.out.block _ (by simp; omega) ge.symm).trans ((gz _ _ _).trans ((HG4.out.block _ (by omega) ge.symm).trans HZ0.out))))))
    have HSX : Hid (Rp WX gb ⟨0, a.1, b.1, c.1, d.1⟩) := by rw [hWX]; exact HS7.out.set4 d.1
    have HRX : Hid (Rd 44 QR WX g d.2) := by rw [hWX]; exact HR7.out.set (a := ⟨gb, 4, none⟩) hgne.symm _
    have HZX : Hid (WX.heap[w.heap.size]? = some (.cells (ofE 0).val 24 (0, 0))) := by rw [hWX]; exact (gz _ _ _).trans HZ7
    have HWX : Hid (Below w.heap.size w WX) := by rw [hWX]; exact HW7.setCell (p := ⟨gb, 4, none⟩) (by show w.heap.size ≤ gb; omega) _
    clear hWX HR4 HG4 HR5 HG5 HR6 HG6 HR7 HG7 HS7 HW7 HZ7 HS4 HS5 HS6 HT4 HT5 HT6 HQ4 HQ5 HQ6 HW4 HW5 HW6 x40 x41 f4 x50 x51 x52 f5 x60 x61 x62 x63 f6 x70 x71 x72 x73 x74 f7
    have HT1 : Hid (doneS d.2 = true → TV = ((⟨0, a.1, b.1, c.1, d.1⟩ : RepIn), 0)) := fun hq => by rw [← hTV.out]; unfold takeV; rw [HRD.out]; exact if_pos hq
    have HT2 : Hid (doneS d.2 = false → TV = (ofE 0, 2)) := fun hq => by rw [← hTV.out]; unfold takeV; rw [HRD.out]; exact if_neg (by rw [hq]; decide)
    have CEX : Hid (Calls Tryd.prog 26 #[.pointer (some ⟨g, 0, none⟩)] WX fun e w' => e = .returned (.bool (doneS d.2)) ∧ Below WX.heap.size WX w') := CE.out _ _ _ HRX.out
    obtain ⟨q, hq⟩ : ∃ q, doneS d.2 = q := ⟨_, rfl⟩
    rw [hq] at CEX
    cases q with
    | false =>
      have HTV := Lib.hid (HT2.out hq)
      clear hq
      go_wp2_with (first | (go_at_call 26; (with_reducible refine CEX.out.mono ?_); rintro e w8 ⟨rfl, hb8⟩; have HZY : Hid (w8.heap[w.heap.size]? = some (.cells (ofE 0).val 24 (0, 0))) := (hb8.block _ (lt_of_heap HZX.out)).trans HZX.out; have HWY := Lib.hid (below2 HWX.out hb8); have HSY := Lib.hid (HSX.out.below hb8); clear hb8) | (refine store_rep rfl (.tmp 2) (.tmp 30) rfl rfl w.heap.size (ofE 0) (ofE 0) rfl rfl HZY.out ?_))
      try simp only [Exit.inBlock, Exit.then]
      refine bodyPost_ret (v := .tuple #[.agg (ofE 0).val, .int .i64 2]) (ret_rep rfl _ _ w.heap.size (ofE 0) _ rfl rfl (setRow_rep _ HZY.out)) rfl ⟨by rw [HTV.out], below_setRow HWY.out _ (Nat.le_refl _) _⟩
    | true =>
      have HTV := Lib.hid (HT1.out hq)
      clear hq
      go_wp2_with (first | (go_at_call 26; (with_reducible refine CEX.out.mono ?_); rintro e w8 ⟨rfl, hb8⟩; have HZY : Hid (w8.heap[w.heap.size]? = some (.cells (ofE 0).val 24 (0, 0))) := (hb8.block _ (lt_of_heap HZX.out)).trans HZX.out; have HWY := Lib.hid (below2 HWX.out hb8); have HSY := Lib.hid (HSX.out.below hb8); clear hb8) | (refine load_rep rfl (.tmp 5) rfl gb rfl ((⟨0, a.1, b.1, c.1, d.1⟩ : RepIn)) HSY.out ?_) | (refine store_rep rfl (.tmp 2) (.tmp 31) rfl rfl w.heap.size ((⟨0, a.1, b.1, c.1, d.1⟩ : RepIn)) (ofE 0) rfl rfl HZY.out ?_))
      try simp only [Exit.inBlock, Exit.then]
      refine bodyPost_ret (v := .tuple #[.agg ((⟨0, a.1, b.1, c.1, d.1⟩ : RepIn)).val, .int .i64 0]) (ret_rep rfl _ _ w.heap.size ((⟨0, a.1, b.1, c.1, d.1⟩ : RepIn)) _ rfl rfl (setRow_rep _ HZY.out)) rfl ⟨by rw [HTV.out], below_setRow HWY.out _ (Nat.le_refl _) _⟩
  · have dz : (u.1 == 0) = false := beq_eq_false_iff_ne.2 hz
    have HRD : Hid (rdR s.data.toList = (ofE u.1, u.2)) := by
      show _ = _
      unfold rdR
      rw [hu.out]
      dsimp only
      rw [if_neg hz]
    have HT1 : Hid (doneS u.2 = true → TV = (ofE u.1, 0)) := fun hq => by rw [← hTV.out]; unfold takeV; rw [HRD.out]; exact if_pos hq
    have HT2 : Hid (doneS u.2 = false → TV = (ofE 0, 2)) := fun hq => by rw [← hTV.out]; unfold takeV; rw [HRD.out]; exact if_neg (by rw [hq]; decide)
    have CEX : Hid (Calls Tryd.prog 26 #[.pointer (some ⟨g, 0, none⟩)] W0 fun e w' => e = .returned (.bool (doneS u.2)) ∧ Below W0.heap.size W0 w') := CE.out _ _ _ HR0.out
    obtain ⟨q, hq⟩ : ∃ q, doneS u.2 = q := ⟨_, rfl⟩
    rw [hq] at CEX
    cases q with
    | false =>
      have HTV := Lib.hid (HT2.out hq)
      clear hq
      go_wp2_with (first | (go_at_call 26; (with_reducible refine CEX.out.mono ?_); rintro e w8 ⟨rfl, hb8⟩; have HZY : Hid (w8.heap[w.heap.size]? = some (.cells (ofE 0).val 24 (0, 0))) := (hb8.block _ (lt_of_heap HZ0.out)).trans HZ0.out; have HWY := Lib.hid (below2 HW0.out hb8); have HSY := Lib.hid (HS0.out.below hb8); clear hb8) | (refine store_rep rfl (.tmp 2) (.tmp 30) rfl rfl w.heap.size (ofE 0) (ofE 0) rfl rfl HZY.out ?_))
      try simp only [Exit.inBlock, Exit.then]
      refine bodyPost_ret (v := .tuple #[.agg (ofE 0).val, .int .i64 2]) (ret_rep rfl _ _ w.heap.size (ofE 0) _ rfl rfl (setRow_rep _ HZY.out)) rfl ⟨by rw [HTV.out], below_setRow HWY.out _ (Nat.le_refl _) _⟩
    | true =>
      have HTV := Lib.hid (HT1.out hq)
      clear hq
      go_wp2_with (first | (go_at_call 26; (with_reducible refine CEX.out.mono ?_); rintro e w8 ⟨rfl, hb8⟩; have HZY : Hid (w8.heap[w.heap.size]? = some (.cells (ofE 0).val 24 (0, 0))) := (hb8.block _ (lt_of_heap HZ0.out)).trans HZ0.out; have HWY := Lib.hid (below2 HW0.out hb8); have HSY := Lib.hid (HS0.out.below hb8); clear hb8) | (refine load_rep rfl (.tmp 5) rfl gb rfl (ofE u.1) HSY.out ?_) | (refine store_rep rfl (.tmp 2) (.tmp 31) rfl rfl w.heap.size (ofE u.1) (ofE 0) rfl rfl HZY.out ?_))
      try simp only [Exit.inBlock, Exit.then]
      refine bodyPost_ret (v := .tuple #[.agg (ofE u.1).val, .int .i64 0]) (ret_rep rfl _ _ w.heap.size (ofE u.1) _ rfl rfl (setRow_rep _ HZY.out)) rfl ⟨by rw [HTV.out], below_setRow HWY.out _ (Nat.le_refl _) _⟩
end Rep
end Go.Proofs.YtmaddebfoefckaaDoor
