/- Texts put together: CatF, CatPr2. -/
import Derived.Test.YtfincohdchnniaaBg
import Derived.Test.YtfincohdchnniaaBi
set_option linter.all false
namespace Go.Proofs.Ytfincohdchnniaa
open Go.RowKit
namespace Cat
open Rec (BlueIn Stk Stks Came bchk inB)
open Pen (below2 below_al below_dN)
set_option maxRecDepth 100000 in
set_option maxHeartbeats 4000000 in
theorem Few_any (c : CatIn) (w : World) (hc : Lies w c) (hl : c.blues.length ≤ maxLen) (hy : c.bays.length ≤ maxLen) (hn : ∀ i, i < c.blues.length → (c.blues.getD i nob).needs.length ≤ maxLen) :
    Calls Try.prog 6 #[.agg c.val] w fun e w' => ∃ b : Bool, e = .returned (.bool b) ∧ Hid (b = true → Small c) ∧ Below w.heap.size w w' := by
  unfold maxLen at hl hy hn
  have HBL := Lib.hid hc.1
  have HN := Lib.hid hn
  have hbw := below_al (Below.refl w.heap.size w) (.cells c.val 27)
  obtain ⟨nb, hnb⟩ : ∃ n, Hid (c.blues.length = n) := ⟨_, rfl⟩
  obtain ⟨ny, hny⟩ : ∃ n, Hid (c.bays.length = n) := ⟨_, rfl⟩
  unfold CatIn.val at *
  rw [hnb.out, hny.out] at hbw ⊢
  rw [hnb.out] at hl
  rw [hny.out] at hy
  have hl1 : (nb : Int) ≤ 9223372036854775807 := by omega
  have hy1 : (ny : Int) ≤ 9223372036854775807 := by omega
  generalize c.baddr = ba at *
  clear hc hn
  go_enter Try.func6, Try.ntmps6
  go_wp2
  go_loop [3] (fun v3 => ∃ k : Nat, k ≤ nb ∧ k ≤ 20 ∧ v3 = .int .i64 (k : Int) ∧ Hid (∀ i, i < k → (c.blues.getD i nob).needs.length ≤ 12)) (fun v3 => 20 - (intOf v3).toNat)
  case atStart => exact ⟨0, by omega, by omega, rfl, fun i hi => by omega⟩
  case round =>
    obtain ⟨k, hk, hk20, rfl, HK⟩ := hrel
    by_cases hlt : k < nb
    · have hlt1 : (k : Int) < (nb : Int) := by omega
      have dlt1 : decide ((k : Int) < (nb : Int)) = true := decide_eq_true hlt1
      by_cases hk2 : k < 20
      · obtain ⟨b, off, rfl, hbl, c0, c1, c2, c3, c4, c5, c6⟩ := (HBL.out.below hbw) k (by rw [hnb.out]; exact hlt)
        have hk3 : (k : Int) < 20 := by omega
        have hk0 : (0 : Int) ≤ (k : Int) := by omega
        have HNk := Lib.hid (HN.out k (by rw [hnb.out]; exact hlt))
        have HKs : Hid ((c.blues.getD k nob).needs.length ≤ 12 → ∀ i, i < k + 1 → (c.blues.getD i nob).needs.length ≤ 12) := fun h i hi => by
          by_cases e : i = k
          · subst e; exact h
          · exact HK.out i (by omega)
        generalize (c.blues.getD k nob).needs.length = m at *
        generalize (c.blues.getD k nob).addr = A at *
        generalize (c.blues.getD k nob).cap = C at *
        by_cases hm : m ≤ 12
        · have hm2 : ¬ (12 : Int) < (m : Int) := by omega
          have dm : decide ((12 : Int) < (m : Int)) = false := decide_eq_false hm2
          have HK2 := Lib.hid (HKs.out hm)
          clear c0 c1 c2 c4 c5 c6
          go_wp2
          go_round
          case rel => exact ⟨k + 1, by omega, by omega, by go_num, HK2⟩
          case measure => simp [intOf]; omega
        · have hm2 : (12 : Int) < (m : Int) := by omega
          have dm : decide ((12 : Int) < (m : Int)) = true := decide_eq_true hm2
          clear c0 c1 c2 c4 c5 c6
          go_wp2
          go_ret
          exact .inl ⟨rfl, Lib.hid trivial, hbw⟩
      · have hk3 : ¬ (k : Int) < 20 := by omega
        have hn20 : decide ((nb : Int) ≤ 20) = false := decide_eq_false (by omega)
        clear hk2
        go_wp2
        go_ret
        exact .inl ⟨rfl, Lib.hid trivial, hbw⟩
    · have hke : k = nb := by omega
      have hge : ¬ (k : Int) < (nb : Int) := by omega
      have dge : decide ((k : Int) < (nb : Int)) = false := decide_eq_false hge
      have hn20 : decide ((nb : Int) ≤ 20) = true := decide_eq_true (by omega)
      have hn21 : (nb : Int) ≤ 20 := by omega
      have HSM : Hid (ny ≤ 12 → Small c) := fun h => ⟨by rw [hnb.out]; omega, by rw [hny.out]; exact h, fun i hi => HK.out i (by rw [hnb.out] at hi; omega)⟩
      by_cases h12 : ny ≤ 12
      · have h13 : (ny : Int) ≤ 12 := by omega
        have d13 : decide ((ny : Int) ≤ 12) = true := decide_eq_true h13
        have HSM2 := Lib.hid (HSM.out h12)
        clear hlt h12 hke
        go_wp2
        go_ret
        first | exact .inr ⟨rfl, HSM2, hbw⟩ | exact .inr ⟨rfl, hbw⟩
      · have h13 : ¬ (ny : Int) ≤ 12 := by omega
        have d13 : decide ((ny : Int) ≤ 12) = false := decide_eq_false h13
        clear hlt h12 hke
        go_wp2
        go_ret
        exact .inl ⟨rfl, Lib.hid trivial, hbw⟩
end Cat
end Go.Proofs.Ytfincohdchnniaa
namespace Go.Proofs.Ytfincohdchnniaa
open Go.RowKit
namespace Cat
open Rec (BlueIn Stk Stks Came bchk inB)
open Pen (below2 below_al below_dN bs bs_append uintB)
open In (Ints)
theorem ints_new_d {w : World} {g : Nat} (hg : w.heap.size = g) (l : List Int) (cs : Array Value) (hcs : cs = (l.map (Value.int .i64)).toArray) (t : TypeId) : Ints .i64 (w.alloc (.cells cs t)).drew (some ⟨g, 0, none⟩) l := ints_new hg l cs hcs t
theorem al_d (w : World) (o : Obj) : Below w.heap.size w (w.alloc o).drew := have h := below_al (Below.refl w.heap.size w) o; ⟨h.os, h.tape, h.output, h.size, h.block⟩
set_option maxRecDepth 100000 in
set_option maxHeartbeats 8000000 in
theorem refPut_any (c : CatIn) (w : World) (hc : Cam w c) :
    Calls Try.prog 9 #[.agg c.val] w fun e w' => e = .returned (.tuple #[.string (bs (putV c).1), .int .i64 (putV c).2]) ∧ Below w.heap.size w w' := by
  have HCM := Lib.hid hc
  have CK : Hid (∀ W, Below w.heap.size w W → Calls Try.prog 20 #[.agg c.val] W fun e w' => e = .returned (.int .i64 (chkC c)) ∧ Below W.heap.size W w') := fun W h => refCheck_any c W (hc.below h)
  have CN : Hid (∀ (W : World) (a : Option Addr) (cap : Nat) (l : List Int) (n : Nat), l.length = n → n ≤ 8 → Low l → Ints .i64 W a l → Calls Try.prog 27 #[.slice a n cap] W fun e w' => e = .returned (.string (bs (numsB l))) ∧ Below W.heap.size W w') := fun W a cap l n h1 h2 h3 h4 => by
    subst h1
    exact refNums_any a cap l h2 h3 W h4
  have HB0 := Lib.hid (box_new w c 27)
  have HV : Hid (putV c = if chkC c = 0 then (putB c, 0) else ([], chkC c)) := rfl
  by_cases h0 : chkC c = 0
  · have HR : Hid (putV c = (putB c, 0)) := by show _ = _; rw [HV.out, if_pos h0]
    rw [HR.out]
    rw [h0] at CK
    obtain ⟨R, hR⟩ : ∃ R, Hid (putB c = R) := ⟨_, rfl⟩
    rw [hR.out]
    obtain ⟨nb, hnb⟩ : ∃ nb, Hid (c.blues.length = nb) := ⟨_, rfl⟩
    obtain ⟨ny, hny⟩ : ∃ ny, Hid (c.bays.length = ny) := ⟨_, rfl⟩
    have hn20 : (nb : Int) ≤ 20 := by have := hnb.out; have := hc.small.1; omega
    have hy12 : (ny : Int) ≤ 12 := by have := hny.out; have := hc.small.2.1; omega
    have L1 : Hid (Low [c.types, (nb : Int)]) := low2 (in64_le hc.nums.1) (by omega)
    unfold CatIn.val at *
    rw [hnb.out, hny.out] at HB0 CK ⊢
    clear HV HR h0 hc
    go_enter Try.func9, Try.ntmps9
    go_wp2_with (first
      | (go_at_call 20; ((with_reducible refine (CK.out _ (box_b HB0.out)).mono ?_); rintro e w1 ⟨rfl, hb1⟩; have HB1 := Lib.hid (box_next HB0.out hb1); obtain ⟨x0, x1, x2, x3, x4, x5, x6, x7, -⟩ := box_flat HB1; rw [hnb.out] at x1; rw [hny.out] at x3))
      | (go_at_call 27; ((with_reducible refine Calls.mono (CN.out _ _ _ [c.types, (nb : Int)] _ rfl (Nat.le_of_ble_eq_true rfl) L1.out (ints_new (by first | rfl | simp) _ _ rfl _)) ?_); rintro e w2 ⟨rfl, hb2⟩)))
    have HBL := Lib.hid HCM.out.lies
    have HSM := Lib.hid HCM.out.small
    have HNU := Lib.hid HCM.out.nums
    obtain ⟨H0, hH0⟩ : ∃ H0, Hid (numsB [c.types, (nb : Int)] = H0) := ⟨_, rfl⟩
    have HH0 : Hid (H0.length ≤ 20) := by show _ ≤ _; rw [← hH0.out]; exact numsB_len _
    rw [hH0.out]
    have HBX := Lib.hid (box_next HB1.out ((Below.refl w1.heap.size w1).alloc (Nat.le_refl _) (.cells #[.int .i64 c.types, .int .i64 (nb : Int)] 3)))
    have HB2 := Lib.hid (box_next HBX.out hb2)
    clear x0 x1 x2 x3 x4 x5 x6 x7 hb1 hb2 HBX HB1
    go_loopw [5, 6] (fun v5 v6 wr => ∃ i : Nat, i ≤ nb ∧ v6 = .int .i64 (i : Int) ∧ v5 = .string (bs (H0 ++ (c.blues.take i).flatMap blueB)) ∧ Hid (Box w c wr)) (fun _ v6 _ => nb - (intOf v6).toNat)
    case atStart => exact ⟨0, by omega, rfl, by simp, HB2⟩
    case round =>
      obtain ⟨i, hi, rfl, rfl, HB⟩ := hrel
      obtain ⟨x0, x1, x2, x3, x4, x5, x6, x7, -⟩ := box_flat HB
      rw [hnb.out] at x1
      rw [hny.out] at x3
      by_cases hlt : i < nb
      · obtain ⟨b, off, hbe, hbl, c0, c1, c2, c3, c4, c5, c6⟩ := (HBL.out.1.below (box_b HB.out)) i (by rw [hnb.out]; exact hlt)
        have hlt1 : (i : Int) < (nb : Int) := by omega
        have hi0 : (0 : Int) ≤ (i : Int) := by omega
        have HST := Lib.hid (HBL.out.2.2 i (by rw [hnb.out]; exact hlt))
        have HSL := Lib.hid (HSM.out.2.2 i (by rw [hnb.out]; exact hlt))
        have HEN := Lib.hid (HNU.out.2.2.2.2.2.2.1 i (by rw [hnb.out]; exact hlt))
        have HSN := Lib.hid (flat_snoc blueB c.blues nob i (by rw [hnb.out]; exact hlt))
        have HPL := Lib.hid (bluesB_len c.blues i HSM.out.1 HSM.out.2.2)
        rw [hbe] at x1
        generalize c.blues.getD i nob = E at *
        obtain ⟨T0, hT0⟩ : ∃ T0, Hid (H0 ++ (c.blues.take i).flatMap blueB = T0) := ⟨_, rfl⟩
        have HT0 : Hid (T0.length ≤ 6300) := by
          have h1 := HPL.out
          have h2 := HH0.out
          show _ ≤ _
          rw [← hT0.out, List.length_append]
          omega
        rw [hT0.out]
        obtain ⟨m, hm⟩ : ∃ m, Hid (E.needs.length = m) := ⟨_, rfl⟩
        rw [hm.out] at c3
        have hm12 : (m : Int) ≤ 12 := by have := HSL.out; have := hm.out; omega
        have L2 : Hid (Low [E.makes, E.per, E.time, (m : Int)]) := low4 (in64_le HEN.out.1) (in64_le HEN.out.2.1) (in64_le HEN.out.2.2.1) (by omega)
        obtain ⟨N4, hN4⟩ : ∃ N4, Hid (numsB [E.makes, E.per, E.time, (m : Int)] = N4) := ⟨_, rfl⟩
        have HN4 : Hid (N4.length ≤ 40) := by show _ ≤ _; rw [← hN4.out]; exact numsB_len _
        have hap := bs_append T0 N4
        have hsz : ¬ 9223372036854775807 < (bs T0).size + (bs N4).size := by
          rw [Pen.bs_size, Pen.bs_size]
          have h1 := HT0.out
          have h2 := HN4.out
          omega
        have CN4 : Hid (∀ (W : World) (a : Option Addr) (cap : Nat), Ints .i64 W a [E.makes, E.per, E.time, (m : Int)] → Calls Try.prog 27 #[.slice a 4 cap] W fun e w' => e = .returned (.string (bs N4)) ∧ Below W.heap.size W w') := fun W a cap h => by
          have := CN.out W a cap _ 4 rfl (Nat.le_of_ble_eq_true rfl) L2.out h
          rw [hN4.out] at this
          exact this
        clear hlt hbe
        go_wp2_with (go_at_call 27; ((with_reducible refine Calls.mono (CN4.out _ _ _ (ints_new (by first | rfl | simp) _ _ rfl _)) ?_); rintro e w3 ⟨rfl, hb3⟩))
        obtain ⟨g1, hg1⟩ : ∃ g1, Hid (wr.heap.size = g1) := ⟨_, rfl⟩
        have HX3 := Lib.hid (box_next (box_next (box_next HB.out ((Below.refl wr.heap.size wr).alloc (Nat.le_refl _) _)) ((Below.refl _ _).alloc (Nat.le_refl _) _)) hb3)
        have HG : Hid (w3.cell? ⟨g1, 3, none⟩ = some (.slice E.addr m E.cap) ∧ w3.cell? ⟨g1, 4, none⟩ = some (.int .i64 E.copy) ∧ w3.cell? ⟨g1, 5, none⟩ = some (.int .i64 E.study) ∧ w3.cell? ⟨g1, 6, none⟩ = some (.int .i64 E.most) ∧ g1 < w3.heap.size) := by
          rw [← hg1.out]
          refine ⟨(hb3.cell (by simp; try omega)).trans (by go_simp), (hb3.cell (by simp; try omega)).trans (by go_simp), (hb3.cell (by simp; try omega)).trans (by go_simp), (hb3.cell (by simp; try omega)).trans (by go_simp), ?_⟩
          have := hb3.size
          simp at this
          omega
        rw [hg1.out]
        obtain ⟨T1, hT1⟩ : ∃ T1, Hid (T0 ++ N4 = T1) := ⟨_, rfl⟩
        have HT1 : Hid (T1.length ≤ 6340) := by
          have h1 := HT0.out
          have h2 := HN4.out
          show _ ≤ _
          rw [← hT1.out, List.length_append]
          omega
        rw [hT1.out]
        clear x0 x1 x2 x3 x4 x5 x6 x7 c0 c1 c2 c3 c4 c5 c6 hap hsz
        go_loopw [5, 8] (fun v5 v8 wx => ∃ j : Nat, j ≤ m ∧ v8 = .int .i64 (j : Int) ∧ v5 = .string (bs (T1 ++ (E.needs.take j).flatMap stkB)) ∧ Hid (Box w c wx) ∧ Hid (wx.cell? ⟨g1, 3, none⟩ = some (.slice E.addr m E.cap) ∧ wx.cell? ⟨g1, 4, none⟩ = some (.int .i64 E.copy) ∧ wx.cell? ⟨g1, 5, none⟩ = some (.int .i64 E.study) ∧ wx.cell? ⟨g1, 6, none⟩ = some (.int .i64 E.most) ∧ g1 < wx.heap.size)) (fun _ v8 _ => m - (intOf v8).toNat)
        case atStart => exact ⟨0, by omega, rfl, by simp, HX3, HG⟩
        case round =>
          obtain ⟨j, hj, rfl, rfl, HBj, HGj⟩ := hrel
          obtain ⟨z3, z4, z5, z6, zl⟩ := HGj.out
          by_cases hlj : j < m
          · obtain ⟨b2, off2, hbe2, hbl2, e0, e1⟩ := (HST.out.below (box_b HBj.out)) j (by rw [hm.out]; exact hlj)
            have hlj1 : (j : Int) < (m : Int) := by omega
            have hj0 : (0 : Int) ≤ (j : Int) := by omega
            have HSNj := Lib.hid (flat_snoc stkB E.needs (0, 0) j (by rw [hm.out]; exact hlj))
            have HNL := Lib.hid (needsB_len E.needs j HSL.out)
            have HYZ := Lib.hid (HEN.out.2.2.2.2.2.2 j (by rw [hm.out]; exact hlj))
            rw [hbe2] at z3
            obtain ⟨T2, hT2⟩ : ∃ T2, Hid (T1 ++ (E.needs.take j).flatMap stkB = T2) := ⟨_, rfl⟩
            have HT2 : Hid (T2.length ≤ 6600) := by
              have h1 := HT1.out
              have h2 := HNL.out
              show _ ≤ _
              rw [← hT2.out, List.length_append]
              omega
            rw [hT2.out]
            generalize hY : (E.needs.getD j (0, 0)).1 = Y at *
            generalize hZ : (E.needs.getD j (0, 0)).2 = Z at *
            obtain ⟨N2, hN2⟩ : ∃ N2, Hid (numsB [Y, Z] = N2) := ⟨_, rfl⟩
            have HSN2 : Hid (stkB (E.needs.getD j (0, 0)) = N2) := by show numsB _ = _; rw [hY, hZ, hN2.out]
            have HN2 : Hid (N2.length ≤ 20) := by show _ ≤ _; rw [← hN2.out]; exact numsB_len _
            have L3 : Hid (Low [Y, Z]) := low2 (in64_le HYZ.out.1) (in64_le HYZ.out.2)
            have hap := bs_append T2 N2
            have hsz : ¬ 9223372036854775807 < (bs T2).size + (bs N2).size := by
              rw [Pen.bs_size, Pen.bs_size]
              have h1 := HT2.out
              have h2 := HN2.out
              omega
            have CN2 : Hid (∀ (W : World) (a : Option Addr) (cap : Nat), Ints .i64 W a [Y, Z] → Calls Try.prog 27 #[.slice a 2 cap] W fun e w' => e = .returned (.string (bs N2)) ∧ Below W.heap.size W w') := fun W a cap h => by
              have := CN.out W a cap _ 2 rfl (Nat.le_of_ble_eq_true rfl) L3.out h
              rw [hN2.out] at this
              exact this
            clear hlj hbe2 hY hZ
            go_wp2
            go_region_with (go_at_call 27; ((with_reducible refine Calls.mono (CN2.out _ _ _ (ints_new_d (by first | rfl | simp) _ _ rfl _)) ?_); rintro e w4 ⟨rfl, hb4⟩))
            all_goals go_wp2
            all_goals go_roundw
            all_goals first
              | (simp [intOf]; omega)
              | skip
            all_goals
              refine ⟨j + 1, by omega, by go_num, by rw [HSNj.out, HSN2.out, ← List.append_assoc, hT2.out], box_next (box_drew (box_next HBj.out ((Below.refl wr.heap.size wr).alloc (Nat.le_refl _) _))) hb4, ?_⟩
              have hbb := below2 (al_d wr _) hb4
              exact ⟨(hbb.cell zl).trans HGj.out.1, (hbb.cell zl).trans z4, (hbb.cell zl).trans z5, (hbb.cell zl).trans z6, Nat.lt_of_lt_of_le zl hbb.size⟩
          · have hje : j = m := by omega
            have hgj : ¬ (j : Int) < (m : Int) := by omega
            have HW : Hid ((E.needs.take j).flatMap stkB = E.needs.flatMap stkB) := by show _ = _; rw [hje, ← hm.out, List.take_length]
            rw [HW.out]
            obtain ⟨T3, hT3⟩ : ∃ T3, Hid (T1 ++ E.needs.flatMap stkB = T3) := ⟨_, rfl⟩
            have HT3 : Hid (T3.length ≤ 6600) := by
              have h1 := HT1.out
              have h2 := needsB_len E.needs E.needs.length HSL.out
              rw [List.take_length] at h2
              show _ ≤ _
              rw [← hT3.out, List.length_append]
              omega
            rw [hT3.out]
            obtain ⟨N3, hN3⟩ : ∃ N3, Hid (numsB [E.copy, E.study, E.most] = N3) := ⟨_, rfl⟩
            have HN3 : Hid (N3.length ≤ 30) := by show _ ≤ _; rw [← hN3.out]; exact numsB_len _
            have L3 : Hid (Low [E.copy, E.study, E.most]) := low3 (in64_le HEN.out.2.2.2.1) (in64_le HEN.out.2.2.2.2.1) (in64_le HEN.out.2.2.2.2.2.1)
            have HFIN : Hid (H0 ++ (c.blues.take (i + 1)).flatMap blueB = T3 ++ N3) := by
              show _ = _
              have hb : blueB E = N4 ++ (E.needs.flatMap stkB ++ N3) := by
                rw [← hN4.out, ← hN3.out, ← hm.out]; rfl
              rw [HSN.out, hb, ← hT3.out, ← hT1.out, ← hT0.out]
              simp only [List.append_assoc]
            have hap := bs_append T3 N3
            have hsz : ¬ 9223372036854775807 < (bs T3).size + (bs N3).size := by
              rw [Pen.bs_size, Pen.bs_size]
              have h1 := HT3.out
              have h2 := HN3.out
              omega
            have CN3 : Hid (∀ (W : World) (a : Option Addr) (cap : Nat), Ints .i64 W a [E.copy, E.study, E.most] → Calls Try.prog 27 #[.slice a 3 cap] W fun e w' => e = .returned (.string (bs N3)) ∧ Below W.heap.size W w') := fun W a cap h => by
              have := CN.out W a cap _ 3 rfl (Nat.le_of_ble_eq_true rfl) L3.out h
              rw [hN3.out] at this
              exact this
            clear hlj hje
            go_wp2_with (go_at_call 27; ((with_reducible refine Calls.mono (CN3.out _ _ _ (ints_new (by first | rfl | simp) _ _ rfl _)) ?_); rintro e w5 ⟨rfl, hb5⟩))
            go_roundw
            case rel => exact ⟨i + 1, by omega, by go_num, by rw [HFIN.out], box_next (box_next HBj.out ((Below.refl wr.heap.size wr).alloc (Nat.le_refl _) _)) hb5⟩
            case measure => simp [intOf]; omega
      · have hie : i = nb := by omega
        have hgi : ¬ (i : Int) < (nb : Int) := by omega
        have HW : Hid ((c.blues.take i).flatMap blueB = c.blues.flatMap blueB) := by show _ = _; rw [hie, ← hnb.out, List.take_length]
        rw [HW.out]
        obtain ⟨T0, hT0⟩ : ∃ T0, Hid (H0 ++ c.blues.flatMap blueB = T0) := ⟨_, rfl⟩
        have HT0 : Hid (T0.length ≤ 6300) := by
          have h1 := HH0.out
          have h2 := bluesB_len c.blues c.blues.length HSM.out.1 HSM.out.2.2
          rw [List.take_length] at h2
          show _ ≤ _
          rw [← hT0.out, List.length_append]
          omega
        rw [hT0.out]
        obtain ⟨N2, hN2⟩ : ∃ N2, Hid (numsB [c.places, (ny : Int)] = N2) := ⟨_, rfl⟩
        have HN2 : Hid (N2.length ≤ 20) := by show _ ≤ _; rw [← hN2.out]; exact numsB_len _
        have L2 : Hid (Low [c.places, (ny : Int)]) := low2 (in64_le HNU.out.2.1) (by omega)
        have hap := bs_append T0 N2
        have hsz : ¬ 9223372036854775807 < (bs T0).size + (bs N2).size := by
          rw [Pen.bs_size, Pen.bs_size]
          have h1 := HT0.out
          have h2 := HN2.out
          omega
        have CN2 : Hid (∀ (W : World) (a : Option Addr) (cap : Nat), Ints .i64 W a [c.places, (ny : Int)] → Calls Try.prog 27 #[.slice a 2 cap] W fun e w' => e = .returned (.string (bs N2)) ∧ Below W.heap.size W w') := fun W a cap h => by
          have := CN.out W a cap _ 2 rfl (Nat.le_of_ble_eq_true rfl) L2.out h
          rw [hN2.out] at this
          exact this
        clear hlt hie
        go_wp2_with (go_at_call 27; ((with_reducible refine Calls.mono (CN2.out _ _ _ (ints_new (by first | rfl | simp) _ _ rfl _)) ?_); rintro e w3 ⟨rfl, hb3⟩))
        have HB3 := Lib.hid (box_next (box_next HB.out ((Below.refl wr.heap.size wr).alloc (Nat.le_refl _) _)) hb3)
        obtain ⟨U0, hU0⟩ : ∃ U0, Hid (T0 ++ N2 = U0) := ⟨_, rfl⟩
        have HU0 : Hid (U0.length ≤ 6320) := by
          have h1 := HT0.out
          have h2 := HN2.out
          show _ ≤ _
          rw [← hU0.out, List.length_append]
          omega
        rw [hU0.out]
        clear x0 x1 x2 x3 x4 x5 x6 x7 hap hsz
        go_loopw [5, 9] (fun v5 v9 wx => ∃ j : Nat, j ≤ ny ∧ v9 = .int .i64 (j : Int) ∧ v5 = .string (bs (U0 ++ (c.bays.take j).flatMap bayB)) ∧ Hid (Box w c wx)) (fun _ v9 _ => ny - (intOf v9).toNat)
        case atStart => exact ⟨0, by omega, rfl, by simp, HB3⟩
        case round =>
          obtain ⟨j, hj, rfl, rfl, HBj⟩ := hrel
          obtain ⟨x0, x1, x2, x3, x4, x5, x6, x7, -⟩ := box_flat HBj
          rw [hny.out] at x3
          by_cases hlj : j < ny
          · obtain ⟨b2, off2, hbe2, hbl2, e0, e1, e2, e3⟩ := (HBL.out.2.1.below (box_b HBj.out)) j (by rw [hny.out]; exact hlj)
            have hlj1 : (j : Int) < (ny : Int) := by omega
            have hj0 : (0 : Int) ≤ (j : Int) := by omega
            have HSN := Lib.hid (flat_snoc bayB c.bays noy j (by rw [hny.out]; exact hlj))
            have HPL := Lib.hid (baysB_len c.bays j HSM.out.2.1)
            have HEN := Lib.hid (HNU.out.2.2.2.2.2.2.2 j (by rw [hny.out]; exact hlj))
            rw [hbe2] at x3
            generalize c.bays.getD j noy = E at *
            obtain ⟨T2, hT2⟩ : ∃ T2, Hid (U0 ++ (c.bays.take j).flatMap bayB = T2) := ⟨_, rfl⟩
            have HT2 : Hid (T2.length ≤ 6900) := by
              have h1 := HU0.out
              have h2 := HPL.out
              show _ ≤ _
              rw [← hT2.out, List.length_append]
              omega
            rw [hT2.out]
            obtain ⟨N4, hN4⟩ : ∃ N4, Hid (numsB [E.place, E.make, E.lab, E.rate] = N4) := ⟨_, rfl⟩
            have HN4 : Hid (N4.length ≤ 40) := by show _ ≤ _; rw [← hN4.out]; exact numsB_len _
            have HFIN : Hid (U0 ++ (c.bays.take (j + 1)).flatMap bayB = T2 ++ N4) := by
              show _ = _
              rw [HSN.out, ← hT2.out, ← hN4.out, List.append_assoc]; rfl
            have L4 : Hid (Low [E.place, E.make, E.lab, E.rate]) := low4 (in64_le HEN.out.1) (in64_le HEN.out.2.1) (in64_le HEN.out.2.2.1) (in64_le HEN.out.2.2.2)
            have hap := bs_append T2 N4
            have hsz : ¬ 9223372036854775807 < (bs T2).size + (bs N4).size := by
              rw [Pen.bs_size, Pen.bs_size]
              have h1 := HT2.out
              have h2 := HN4.out
              omega
            have CN4 : Hid (∀ (W : World) (a : Option Addr) (cap : Nat), Ints .i64 W a [E.place, E.make, E.lab, E.rate] → Calls Try.prog 27 #[.slice a 4 cap] W fun e w' => e = .returned (.string (bs N4)) ∧ Below W.heap.size W w') := fun W a cap h => by
              have := CN.out W a cap _ 4 rfl (Nat.le_of_ble_eq_true rfl) L4.out h
              rw [hN4.out] at this
              exact this
            clear hlj hbe2
            go_wp2_with (go_at_call 27; ((with_reducible refine Calls.mono (CN4.out _ _ _ (ints_new (by first | rfl | simp) _ _ rfl _)) ?_); rintro e w4 ⟨rfl, hb4⟩))
            go_roundw
            case rel => exact ⟨j + 1, by omega, by go_num, by rw [HFIN.out], box_next (box_next (box_next HBj.out ((Below.refl wr.heap.size wr).alloc (Nat.le_refl _) _)) ((Below.refl _ _).alloc (Nat.le_refl _) _)) hb4⟩
            case measure => simp [intOf]; omega
          · have hje : j = ny := by omega
            have hgj : ¬ (j : Int) < (ny : Int) := by omega
            have HW2 : Hid ((c.bays.take j).flatMap bayB = c.bays.flatMap bayB) := by show _ = _; rw [hje, ← hny.out, List.take_length]
            rw [HW2.out]
            obtain ⟨T3, hT3⟩ : ∃ T3, Hid (U0 ++ c.bays.flatMap bayB = T3) := ⟨_, rfl⟩
            have HT3 : Hid (T3.length ≤ 6900) := by
              have h1 := HU0.out
              have h2 := baysB_len c.bays c.bays.length HSM.out.2.1
              rw [List.take_length] at h2
              show _ ≤ _
              rw [← hT3.out, List.length_append]
              omega
            rw [hT3.out]
            obtain ⟨N3, hN3⟩ : ∃ N3, Hid (numsB [c.chars, c.broker, c.least, c.sales] = N3) := ⟨_, rfl⟩
            have HN3 : Hid (N3.length ≤ 40) := by show _ ≤ _; rw [← hN3.out]; exact numsB_len _
            have L3 : Hid (Low [c.chars, c.broker, c.least, c.sales]) := low4 (in64_le HNU.out.2.2.1) (in64_le HNU.out.2.2.2.1) (in64_le HNU.out.2.2.2.2.1) (in64_le HNU.out.2.2.2.2.2.1)
            have HFIN : Hid (T3 ++ N3 = R) := by
              show _ = _
              rw [← hR.out, ← hN3.out, ← hT3.out, ← hU0.out, ← hN2.out, ← hT0.out, ← hH0.out, ← hnb.out, ← hny.out]
              unfold putB
              simp only [List.append_assoc]
            have hap := bs_append T3 N3
            have hsz : ¬ 9223372036854775807 < (bs T3).size + (bs N3).size := by
              rw [Pen.bs_size, Pen.bs_size]
              have h1 := HT3.out
              have h2 := HN3.out
              omega
            have CN3 : Hid (∀ (W : World) (a : Option Addr) (cap : Nat), Ints .i64 W a [c.chars, c.broker, c.least, c.sales] → Calls Try.prog 27 #[.slice a 4 cap] W fun e w' => e = .returned (.string (bs N3)) ∧ Below W.heap.size W w') := fun W a cap h => by
              have := CN.out W a cap _ 4 rfl (Nat.le_of_ble_eq_true rfl) L3.out h
              rw [hN3.out] at this
              exact this
            clear hlj hje
            go_wp2_with (go_at_call 27; ((with_reducible refine Calls.mono (CN3.out _ _ _ (ints_new (by first | rfl | simp) _ _ rfl _)) ?_); rintro e w5 ⟨rfl, hb5⟩))
            go_ret2
            exact ⟨by first | rfl | (rw [HFIN.out]; rfl), below2 (box_b (box_next HBj.out ((Below.refl wr.heap.size wr).alloc (Nat.le_refl _) _))) hb5⟩
  · have HR : Hid (putV c = ([], chkC c)) := by show _ = _; rw [HV.out, if_neg h0]
    rw [HR.out]
    have d0 : (chkC c == 0) = false := beq_eq_false_iff_ne.2 h0
    generalize chkC c = K at *
    unfold CatIn.val at *
    go_enter Try.func9, Try.ntmps9
    go_wp2_with (go_at_call 20; ((with_reducible refine (CK.out _ (box_b HB0.out)).mono ?_); rintro e w1 ⟨rfl, hb1⟩))
    go_ret2
    exact ⟨rfl, below2 (box_b HB0.out) hb1⟩
end Cat
end Go.Proofs.Ytfincohdchnniaa
