/- Texts put together: CatPp. -/
import Derived.Test.YtfincohdchnniaaBi
import Derived.Test.YtfincohdchnniaaBf
import Derived.Deep.QuietTactic
set_option linter.all false
namespace Go.Proofs.Ytfincohdchnniaa
open Go.RowKit
namespace Cat
open Rec (BlueIn Stk Stks Came bchk inB)
open Pen (below2 below_al below_dN bs bs_append uintB)
open In (Ints)
/-- The string that is put so far. -/
def PS (g : Nat) (W : World) (s : List UInt8) : Prop := W.cell? ⟨g, 0, none⟩ = some (.string (bs s)) ∧ W.frozen? ⟨g, 0, none⟩ = false ∧ g < W.heap.size
theorem grw_alc {w w' : World} {o : Option Nat} (x : Obj) (h : (w.alloc x).grownBy w' o) : w.grownBy w' o :=
  ⟨h.os, h.tape, h.output, Nat.le_trans (by simp) h.size, fun k hk hne => (h.block k (by simp; omega) hne).trans (heap_alloc_old w x hk)⟩
theorem puts_any (g : Nat) (s : List UInt8) (l : List Int) (n : Nat) (W : World) (h : Nat) (cs : Array Value) (t : TypeId) (hp : PS g W s) (hs : s.length ≤ 1000000) (hl : l.length = n) (hn : n ≤ 8) (hlo : Low l) (hh : W.heap.size = h) (hcs : cs = (l.map (Value.int .i64)).toArray) (cap : Nat) :
    Calls Try.prog 25 #[.slice (some ⟨h, 0, none⟩) n cap, .pointer (some ⟨g, 0, none⟩)] (W.alloc (.cells cs t)) fun e w' => e = .returned (.tuple #[]) ∧ Hid (PS g w' (s ++ numsB l)) ∧ Hid (W.grownBy w' (some g)) := by
  subst hl
  have hg := hp.2.2
  refine (nums_any (some ⟨h, 0, none⟩) cap l hn hlo g s hs (W.alloc (.cells cs t)) (ints_new hh l cs hcs t) (fun b off e => by cases e; omega) ((World.cell?_alloc_lt _ _ _ hg).trans hp.1) (by simp; omega) ?_).mono ?_
  · have := hp.2.1
    unfold World.frozen? at this ⊢
    rw [show (W.alloc (.cells cs t)).heap[g]? = W.heap[g]? from heap_alloc_old W _ hg]
    exact this
  · rintro e w' ⟨rfl, H1, H2⟩
    exact ⟨rfl, ⟨H1.out.1, H1.out.2, by have := H2.out.size; simp at this; omega⟩, grw_alc _ H2.out⟩
theorem box_grown {w W W' : World} {c : CatIn} {g : Nat} (h : Box w c W) (hg : W.grownBy W' (some g)) (hl : w.heap.size < g) : Box w c W' := by
  obtain ⟨h1, h2, h3⟩ := h
  have hb : W'.heap[w.heap.size]? = W.heap[w.heap.size]? := hg.block _ h2 (fun e => by have := Option.some.inj e; omega)
  have hc : ∀ i, W'.cell? ⟨w.heap.size, i, none⟩ = W.cell? ⟨w.heap.size, i, none⟩ := fun i => by unfold World.cell?; rw [hb]
  refine ⟨⟨hg.os.trans h1.os, hg.tape.trans h1.tape, hg.output.trans h1.output, Nat.le_trans h1.size hg.size, fun k hk => (hg.block k (Nat.lt_of_lt_of_le hk h1.size) (fun e => by have := Option.some.inj e; omega)).trans (h1.block k hk)⟩, Nat.lt_of_lt_of_le h2 hg.size, ?_⟩
  simp only [hc]
  exact h3
theorem ps_alloc {g : Nat} {W : World} {s : List UInt8} (h : PS g W s) (o : Obj) : PS g (W.alloc o) s := by
  refine ⟨(World.cell?_alloc_lt _ _ _ h.2.2).trans h.1, ?_, by simp; have := h.2.2; omega⟩
  have := h.2.1
  unfold World.frozen? at this ⊢
  rw [show (W.alloc o).heap[g]? = W.heap[g]? from heap_alloc_old W _ h.2.2]
  exact this
theorem box_alloc {w W : World} {c : CatIn} (h : Box w c W) (o : Obj) : Box w c (W.alloc o) := box_next h ((Below.refl W.heap.size W).alloc (Nat.le_refl _) o)
set_option maxRecDepth 100000 in
set_option maxHeartbeats 8000000 in
theorem Put_any (c : CatIn) (w : World) (hc : Cam w c) :
    Calls Try.prog 8 #[.agg c.val] w fun e w' => e = .returned (.tuple #[.string (bs (putV c).1), .int .i64 (putV c).2]) ∧ Below w.heap.size w w' := by
  have HCM := Lib.hid hc
  have CK : Hid (∀ W, Below w.heap.size w W → Calls Try.prog 13 #[.agg c.val] W fun e w' => e = .returned (.int .i64 (chkC c)) ∧ Below W.heap.size W w') := fun W h => Check_any c W (hc.below h)
  have HB0 := Lib.hid (box_new w c 27)
  have HV : Hid (putV c = if chkC c = 0 then (putB c, 0) else ([], chkC c)) := rfl
  by_cases h0 : chkC c = 0
  · have HR : Hid (putV c = (putB c, 0)) := by show _ = _; rw [HV.out, if_pos h0]
    rw [HR.out]
    rw [h0] at CK
    obtain ⟨R, hR⟩ : ∃ R, Hid (putB c = R) := ⟨_, rfl⟩
    rw [hR.out]
    obtain ⟨nb, hnb⟩ : ∃ nb, Hid (c.blues.length = nb) := ⟨_, rfl⟩
    obtain ⟨ny, hny⟩ : ∃ ny, Hid (c.bays.length = ny) := ⟨_, rfl⟩
    have hn20 : (nb : Int) ≤ 20 := by have := hnb.out; have := hc.small.1; omega
    have hy12 : (ny : Int) ≤ 12 := by have := hny.out; have := hc.small.2.1; omega
    have L1 : Hid (Low [c.types, (nb : Int)]) := low2 (in64_le hc.nums.1) (by omega)
    obtain ⟨ba, hba⟩ : ∃ ba, Hid (c.baddr = ba) := ⟨_, rfl⟩
    obtain ⟨ya, hya⟩ : ∃ ya, Hid (c.yaddr = ya) := ⟨_, rfl⟩
    unfold CatIn.val at *
    rw [hnb.out, hny.out, hba.out, hya.out] at HB0 CK ⊢
    clear HV HR h0 hc
    go_enter Try.func8, Try.ntmps8
    go_wp2_with (first
      | (go_at_call 13; ((with_reducible refine (CK.out _ (box_b HB0.out)).mono ?_); rintro e w1 ⟨rfl, hb1⟩; have HB1 := Lib.hid (box_next HB0.out hb1); obtain ⟨x0, x1, x2, x3, x4, x5, x6, x7, -⟩ := box_flat HB1; rw [hnb.out, hba.out] at x1; rw [hny.out, hya.out] at x3; have hl1 : w.heap.size < w1.heap.size := box_l HB1.out; have PS1 : Hid (PS w1.heap.size (w1.alloc (.cells #[.string { data := #[] }] 9)) []) := ⟨by go_simp; rfl, by go_simp, by simp⟩))
      | (go_at_call 25; ((with_reducible refine Calls.mono (puts_any w1.heap.size [] [c.types, (nb : Int)] 2 _ _ _ _ PS1.out (Nat.zero_le _) rfl (Nat.le_of_ble_eq_true rfl) L1.out (by first | rfl | simp) rfl _) ?_); rintro e w2 ⟨rfl, HP2, HG2⟩; have HB2 := Lib.hid (box_grown (box_alloc HB1.out _) HG2.out hl1); clear x0 x1 x2 x3 x4 x5 x6 x7; obtain ⟨x0, x1, x2, x3, x4, x5, x6, x7, -⟩ := box_flat HB2; rw [hnb.out, hba.out] at x1; rw [hny.out, hya.out] at x3)))
    have HBL := Lib.hid HCM.out.lies
    have HSM := Lib.hid HCM.out.small
    have HNU := Lib.hid HCM.out.nums
    obtain ⟨H0, hH0⟩ : ∃ H0, Hid (numsB [c.types, (nb : Int)] = H0) := ⟨_, rfl⟩
    have HH0 : Hid (H0.length ≤ 20) := by show _ ≤ _; rw [← hH0.out]; exact numsB_len _
    rw [hH0.out, List.nil_append] at HP2
    clear x0 x1 x2 x3 x4 x5 x6 x7 hb1 HB1 PS1 HG2
    go_loopw [30] (fun v30 wr => ∃ i : Nat, i ≤ nb ∧ v30 = .int .i64 (i : Int) ∧ Hid (PS w1.heap.size wr (H0 ++ (c.blues.take i).flatMap blueB)) ∧ Hid (Box w c wr)) (fun v30 _ => nb - (intOf v30).toNat)
    case atStart => exact ⟨0, by omega, rfl, by simpa using HP2, HB2⟩
    case round =>
      obtain ⟨i, hi, rfl, HP, HB⟩ := hrel
      have hgs : w1.heap.size < wr.heap.size := HP.out.2.2
      by_cases hlt : i < nb
      · obtain ⟨b, off, hbe, hbl, c0, c1, c2, c3, c4, c5, c6⟩ := (HBL.out.1.below (box_b HB.out)) i (by rw [hnb.out]; exact hlt)
        have hlt1 : (i : Int) < (nb : Int) := by omega
        have hi0 : (0 : Int) ≤ (i : Int) := by omega
        have HST := Lib.hid (HBL.out.2.2 i (by rw [hnb.out]; exact hlt))
        have HSL := Lib.hid (HSM.out.2.2 i (by rw [hnb.out]; exact hlt))
        have HEN := Lib.hid (HNU.out.2.2.2.2.2.2.1 i (by rw [hnb.out]; exact hlt))
        have HSN := Lib.hid (flat_snoc blueB c.blues nob i (by rw [hnb.out]; exact hlt))
        have HPL := Lib.hid (bluesB_len c.blues i HSM.out.1 HSM.out.2.2)
        obtain rfl := hba.out.symm.trans hbe
        clear hbe
        generalize c.blues.getD i nob = E at *
        obtain ⟨T0, hT0⟩ : ∃ T0, Hid (H0 ++ (c.blues.take i).flatMap blueB = T0) := ⟨_, rfl⟩
        have HT0 : Hid (T0.length ≤ 6300) := by
          have h1 := HPL.out
          have h2 := HH0.out
          show _ ≤ _
          rw [← hT0.out, List.length_append]
          omega
        rw [hT0.out] at HP
        obtain ⟨m, hm⟩ : ∃ m, Hid (E.needs.length = m) := ⟨_, rfl⟩
        rw [hm.out] at c3
        have hm12 : (m : Int) ≤ 12 := by have := HSL.out; have := hm.out; omega
        have L2 : Hid (Low [E.makes, E.per, E.time, (m : Int)]) := low4 (in64_le HEN.out.1) (in64_le HEN.out.2.1) (in64_le HEN.out.2.2.1) (by omega)
        obtain ⟨N4, hN4⟩ : ∃ N4, Hid (numsB [E.makes, E.per, E.time, (m : Int)] = N4) := ⟨_, rfl⟩
        have HN4 : Hid (N4.length ≤ 40) := by show _ ≤ _; rw [← hN4.out]; exact numsB_len _
        obtain ⟨ea, hea⟩ : ∃ ea, Hid (E.addr = ea) := ⟨_, rfl⟩
        rw [hea.out] at c3
        clear hlt
        go_wp2_with (go_at_call 25; ((with_reducible refine Calls.mono (puts_any w1.heap.size T0 [E.makes, E.per, E.time, (m : Int)] 4 _ _ _ _ (ps_alloc HP.out _) (Nat.le_trans HT0.out (by decide)) rfl (Nat.le_of_ble_eq_true rfl) L2.out (by first | rfl | simp) rfl _) ?_); rintro e w3 ⟨rfl, HP3, HG3⟩; have k3 := cell_grown (i := 3) (g := wr.heap.size) HG3.out (by simp) (fun e => by have := Option.some.inj e; omega) (v := .slice ea m E.cap) (by go_simp); have k4 := cell_grown (i := 4) (g := wr.heap.size) HG3.out (by simp) (fun e => by have := Option.some.inj e; omega) (v := .int .i64 E.copy) (by go_simp); have k5 := cell_grown (i := 5) (g := wr.heap.size) HG3.out (by simp) (fun e => by have := Option.some.inj e; omega) (v := .int .i64 E.study) (by go_simp); have k6 := cell_grown (i := 6) (g := wr.heap.size) HG3.out (by simp) (fun e => by have := Option.some.inj e; omega) (v := .int .i64 E.most) (by go_simp)))
        have HB3 := Lib.hid (box_grown (box_alloc HB.out _) HG3.out hl1)
        obtain ⟨g1, hg1⟩ : ∃ g1, Hid (wr.heap.size = g1) := ⟨_, rfl⟩
        have hgl : w1.heap.size < g1 := by rw [← hg1.out]; exact hgs
        have HK3 : Hid (w3.cell? ⟨g1, 4, none⟩ = some (.int .i64 E.copy) ∧ w3.cell? ⟨g1, 5, none⟩ = some (.int .i64 E.study) ∧ w3.cell? ⟨g1, 6, none⟩ = some (.int .i64 E.most) ∧ g1 < w3.heap.size) := by
          rw [← hg1.out]
          exact ⟨k4, k5, k6, by have := HG3.out.size; simp at this; omega⟩
        rw [hg1.out]
        obtain ⟨T1, hT1⟩ : ∃ T1, Hid (T0 ++ N4 = T1) := ⟨_, rfl⟩
        have HT1 : Hid (T1.length ≤ 6340) := by
          have h1 := HT0.out
          have h2 := HN4.out
          show _ ≤ _
          rw [← hT1.out, List.length_append]
          omega
        rw [hN4.out, hT1.out] at HP3
        clear c0 c1 c2 c3 c4 c5 c6 k3 k4 k5 k6 HG3 HP HB hgs
        go_loopw [49] (fun v49 wx => ∃ j : Nat, j ≤ m ∧ v49 = .int .i64 (j : Int) ∧ Hid (PS w1.heap.size wx (T1 ++ (E.needs.take j).flatMap stkB)) ∧ Hid (Box w c wx) ∧ Hid (wx.cell? ⟨g1, 4, none⟩ = some (.int .i64 E.copy) ∧ wx.cell? ⟨g1, 5, none⟩ = some (.int .i64 E.study) ∧ wx.cell? ⟨g1, 6, none⟩ = some (.int .i64 E.most) ∧ g1 < wx.heap.size)) (fun v49 _ => m - (intOf v49).toNat)
        case atStart => exact ⟨0, by omega, rfl, by simpa using HP3, HB3, HK3⟩
        case round =>
          obtain ⟨j, hj, rfl, HPj, HBj, HKj⟩ := hrel
          have hgs : w1.heap.size < wr.heap.size := HPj.out.2.2
          by_cases hlj : j < m
          · obtain ⟨b2, off2, hbe2, hbl2, e0, e1⟩ := (HST.out.below (box_b HBj.out)) j (by rw [hm.out]; exact hlj)
            have hlj1 : (j : Int) < (m : Int) := by omega
            have hj0 : (0 : Int) ≤ (j : Int) := by omega
            have HSNj := Lib.hid (flat_snoc stkB E.needs (0, 0) j (by rw [hm.out]; exact hlj))
            have HNL := Lib.hid (needsB_len E.needs j HSL.out)
            have HYZ := Lib.hid (HEN.out.2.2.2.2.2.2 j (by rw [hm.out]; exact hlj))
            obtain ⟨T2, hT2⟩ : ∃ T2, Hid (T1 ++ (E.needs.take j).flatMap stkB = T2) := ⟨_, rfl⟩
            have HT2 : Hid (T2.length ≤ 6600) := by
              have h1 := HT1.out
              have h2 := HNL.out
              show _ ≤ _
              rw [← hT2.out, List.length_append]
              omega
            rw [hT2.out] at HPj
            generalize hY : (E.needs.getD j (0, 0)).1 = Y at *
            generalize hZ : (E.needs.getD j (0, 0)).2 = Z at *
            have HSN2 : Hid (T1 ++ (E.needs.take (j + 1)).flatMap stkB = T2 ++ numsB [Y, Z]) := by
              show _ = _
              rw [HSNj.out, ← List.append_assoc, hT2.out, ← hY, ← hZ]
              rfl
            have L3 : Hid (Low [Y, Z]) := low2 (in64_le HYZ.out.1) (in64_le HYZ.out.2)
            obtain rfl := hea.out.symm.trans hbe2
            clear hlj hbe2 hY hZ
            go_wp2_with (go_at_call 25; ((with_reducible refine Calls.mono (puts_any w1.heap.size T2 [Y, Z] 2 _ _ _ _ (ps_alloc HPj.out _) (Nat.le_trans HT2.out (by decide)) rfl (Nat.le_of_ble_eq_true rfl) L3.out (by first | rfl | simp) rfl _) ?_); rintro e w4 ⟨rfl, HP4, HG4⟩))
            go_roundw
            case rel =>
              have hga := grw_alc _ HG4.out
              refine ⟨j + 1, by omega, by go_num, by rw [HSN2.out]; exact HP4, box_grown (box_alloc HBj.out _) HG4.out hl1, ?_⟩
              have hne : some w1.heap.size ≠ some g1 := fun e => by have := Option.some.inj e; omega
              exact ⟨cell_grown hga HKj.out.2.2.2 hne HKj.out.1, cell_grown hga HKj.out.2.2.2 hne HKj.out.2.1, cell_grown hga HKj.out.2.2.2 hne HKj.out.2.2.1, Nat.lt_of_lt_of_le HKj.out.2.2.2 hga.size⟩
            case measure => simp [intOf]; omega
          · have hje : j = m := by omega
            have hgj : ¬ (j : Int) < (m : Int) := by omega
            have HW : Hid ((E.needs.take j).flatMap stkB = E.needs.flatMap stkB) := by show _ = _; rw [hje, ← hm.out, List.take_length]
            rw [HW.out] at HPj
            obtain ⟨T3, hT3⟩ : ∃ T3, Hid (T1 ++ E.needs.flatMap stkB = T3) := ⟨_, rfl⟩
            have HT3 : Hid (T3.length ≤ 6600) := by
              have h1 := HT1.out
              have h2 := needsB_len E.needs E.needs.length HSL.out
              rw [List.take_length] at h2
              show _ ≤ _
              rw [← hT3.out, List.length_append]
              omega
            rw [hT3.out] at HPj
            have L3 : Hid (Low [E.copy, E.study, E.most]) := low3 (in64_le HEN.out.2.2.2.1) (in64_le HEN.out.2.2.2.2.1) (in64_le HEN.out.2.2.2.2.2.1)
            have HFIN : Hid (H0 ++ (c.blues.take (i + 1)).flatMap blueB = T3 ++ numsB [E.copy, E.study, E.most]) := by
              show _ = _
              have hb : blueB E = N4 ++ (E.needs.flatMap stkB ++ numsB [E.copy, E.study, E.most]) := by
                rw [← hN4.out, ← hm.out]; rfl
              rw [HSN.out, hb, ← hT3.out, ← hT1.out, ← hT0.out]
              simp only [List.append_assoc]
            obtain ⟨z4, z5, z6, zl⟩ := HKj.out
            clear hlj hje
            go_wp2_with (go_at_call 25; ((with_reducible refine Calls.mono (puts_any w1.heap.size T3 [E.copy, E.study, E.most] 3 _ _ _ _ HPj.out (Nat.le_trans HT3.out (by decide)) rfl (Nat.le_of_ble_eq_true rfl) L3.out (by first | rfl | simp) rfl _) ?_); rintro e w5 ⟨rfl, HP5, HG5⟩))
            go_roundw
            case rel => exact ⟨i + 1, by omega, by go_num, by rw [HFIN.out]; exact HP5, box_grown HBj.out HG5.out hl1⟩
            case measure => simp [intOf]; omega
      · have hie : i = nb := by omega
        have hgi : ¬ (i : Int) < (nb : Int) := by omega
        have HW : Hid ((c.blues.take i).flatMap blueB = c.blues.flatMap blueB) := by show _ = _; rw [hie, ← hnb.out, List.take_length]
        rw [HW.out] at HP
        obtain ⟨T0, hT0⟩ : ∃ T0, Hid (H0 ++ c.blues.flatMap blueB = T0) := ⟨_, rfl⟩
        have HT0 : Hid (T0.length ≤ 6300) := by
          have h1 := HH0.out
          have h2 := bluesB_len c.blues c.blues.length HSM.out.1 HSM.out.2.2
          rw [List.take_length] at h2
          show _ ≤ _
          rw [← hT0.out, List.length_append]
          omega
        rw [hT0.out] at HP
        obtain ⟨N2, hN2⟩ : ∃ N2, Hid (numsB [c.places, (ny : Int)] = N2) := ⟨_, rfl⟩
        have HN2 : Hid (N2.length ≤ 20) := by show _ ≤ _; rw [← hN2.out]; exact numsB_len _
        have L2 : Hid (Low [c.places, (ny : Int)]) := low2 (in64_le HNU.out.2.1) (by omega)
        obtain ⟨x0, x1, x2, x3, x4, x5, x6, x7, -⟩ := box_flat HB
        rw [hny.out, hya.out] at x3
        clear hlt hie
        go_wp2_with (go_at_call 25; ((with_reducible refine Calls.mono (puts_any w1.heap.size T0 [c.places, (ny : Int)] 2 _ _ _ _ HP.out (Nat.le_trans HT0.out (by decide)) rfl (Nat.le_of_ble_eq_true rfl) L2.out (by first | rfl | simp) rfl _) ?_); rintro e w3 ⟨rfl, HP3, HG3⟩; have HB3 := Lib.hid (box_grown HB.out HG3.out hl1); clear x0 x1 x2 x3 x4 x5 x6 x7; obtain ⟨x0, x1, x2, x3, x4, x5, x6, x7, -⟩ := box_flat HB3; rw [hny.out, hya.out] at x3))
        obtain ⟨U0, hU0⟩ : ∃ U0, Hid (T0 ++ N2 = U0) := ⟨_, rfl⟩
        have HU0 : Hid (U0.length ≤ 6320) := by
          have h1 := HT0.out
          have h2 := HN2.out
          show _ ≤ _
          rw [← hU0.out, List.length_append]
          omega
        rw [hN2.out, hU0.out] at HP3
        clear x0 x1 x2 x3 x4 x5 x6 x7 HG3 HP HB
        go_loopw [82] (fun v82 wx => ∃ j : Nat, j ≤ ny ∧ v82 = .int .i64 (j : Int) ∧ Hid (PS w1.heap.size wx (U0 ++ (c.bays.take j).flatMap bayB)) ∧ Hid (Box w c wx)) (fun v82 _ => ny - (intOf v82).toNat)
        case atStart => exact ⟨0, by omega, rfl, by simpa using HP3, HB3⟩
        case round =>
          obtain ⟨j, hj, rfl, HPj, HBj⟩ := hrel
          by_cases hlj : j < ny
          · obtain ⟨b2, off2, hbe2, hbl2, e0, e1, e2, e3⟩ := (HBL.out.2.1.below (box_b HBj.out)) j (by rw [hny.out]; exact hlj)
            have hlj1 : (j : Int) < (ny : Int) := by omega
            have hj0 : (0 : Int) ≤ (j : Int) := by omega
            have HSN := Lib.hid (flat_snoc bayB c.bays noy j (by rw [hny.out]; exact hlj))
            have HPL := Lib.hid (baysB_len c.bays j HSM.out.2.1)
            have HEN := Lib.hid (HNU.out.2.2.2.2.2.2.2 j (by rw [hny.out]; exact hlj))
            generalize c.bays.getD j noy = E at *
            obtain ⟨T2, hT2⟩ : ∃ T2, Hid (U0 ++ (c.bays.take j).flatMap bayB = T2) := ⟨_, rfl⟩
            have HT2 : Hid (T2.length ≤ 6900) := by
              have h1 := HU0.out
              have h2 := HPL.out
              show _ ≤ _
              rw [← hT2.out, List.length_append]
              omega
            rw [hT2.out] at HPj
            have HFIN : Hid (U0 ++ (c.bays.take (j + 1)).flatMap bayB = T2 ++ numsB [E.place, E.make, E.lab, E.rate]) := by
              show _ = _
              rw [HSN.out, ← hT2.out, List.append_assoc]; rfl
            have L4 : Hid (Low [E.place, E.make, E.lab, E.rate]) := low4 (in64_le HEN.out.1) (in64_le HEN.out.2.1) (in64_le HEN.out.2.2.1) (in64_le HEN.out.2.2.2)
            obtain rfl := hya.out.symm.trans hbe2
            clear hlj hbe2
            go_wp2_with (go_at_call 25; ((with_reducible refine Calls.mono (puts_any w1.heap.size T2 [E.place, E.make, E.lab, E.rate] 4 _ _ _ _ (ps_alloc HPj.out _) (Nat.le_trans HT2.out (by decide)) rfl (Nat.le_of_ble_eq_true rfl) L4.out (by first | rfl | simp) rfl _) ?_); rintro e w4 ⟨rfl, HP4, HG4⟩))
            go_roundw
            case rel => exact ⟨j + 1, by omega, by go_num, by rw [HFIN.out]; exact HP4, box_grown (box_alloc HBj.out _) HG4.out hl1⟩
            case measure => simp [intOf]; omega
          · have hje : j = ny := by omega
            have hgj : ¬ (j : Int) < (ny : Int) := by omega
            have HW2 : Hid ((c.bays.take j).flatMap bayB = c.bays.flatMap bayB) := by show _ = _; rw [hje, ← hny.out, List.take_length]
            rw [HW2.out] at HPj
            obtain ⟨T3, hT3⟩ : ∃ T3, Hid (U0 ++ c.bays.flatMap bayB = T3) := ⟨_, rfl⟩
            have HT3 : Hid (T3.length ≤ 6900) := by
              have h1 := HU0.out
              have h2 := baysB_len c.bays c.bays.length HSM.out.2.1
              rw [List.take_length] at h2
              show _ ≤ _
              rw [← hT3.out, List.length_append]
              omega
            rw [hT3.out] at HPj
            have L3 : Hid (Low [c.chars, c.broker, c.least, c.sales]) := low4 (in64_le HNU.out.2.2.1) (in64_le HNU.out.2.2.2.1) (in64_le HNU.out.2.2.2.2.1) (in64_le HNU.out.2.2.2.2.2.1)
            have HFIN : Hid (T3 ++ numsB [c.chars, c.broker, c.least, c.sales] = R) := by
              show _ = _
              rw [← hR.out, ← hT3.out, ← hU0.out, ← hN2.out, ← hT0.out, ← hH0.out, ← hnb.out, ← hny.out]
              unfold putB
              simp only [List.append_assoc]
            obtain ⟨x0, x1, x2, x3, x4, x5, x6, x7, -⟩ := box_flat HBj
            clear hlj hje
            go_wp2_with (go_at_call 25; ((with_reducible refine Calls.mono (puts_any w1.heap.size T3 [c.chars, c.broker, c.least, c.sales] 4 _ _ _ _ HPj.out (Nat.le_trans HT3.out (by decide)) rfl (Nat.le_of_ble_eq_true rfl) L3.out (by first | rfl | simp) rfl _) ?_); rintro e w5 ⟨rfl, HP5, HG5⟩; rw [HFIN.out] at HP5; have q5 := HP5.out.1))
            go_ret2
            exact ⟨rfl, box_b (box_grown HBj.out HG5.out hl1)⟩
  · have HR : Hid (putV c = ([], chkC c)) := by show _ = _; rw [HV.out, if_neg h0]
    rw [HR.out]
    have d0 : (chkC c == 0) = false := beq_eq_false_iff_ne.2 h0
    generalize chkC c = K at *
    unfold CatIn.val at *
    go_enter Try.func8, Try.ntmps8
    go_wp2_with (go_at_call 13; ((with_reducible refine (CK.out _ (box_b HB0.out)).mono ?_); rintro e w1 ⟨rfl, hb1⟩))
    go_ret2
    exact ⟨rfl, below2 (box_b HB0.out) hb1⟩
end Cat
end Go.Proofs.Ytfincohdchnniaa
