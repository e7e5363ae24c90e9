/- How deep nodes stand: the reference's Deep. -/
import Derived.Test.YtjdkkldlghdojaaGraD
namespace Go.Proofs.Ytjdkkldlghdojaa
open Go.RowKit
namespace Gra
open In (Ints IsInts)
set_option maxRecDepth 100000 in
set_option maxHeartbeats 8000000 in
theorem refDeep_core (n : Int) (a : Option Addr) (cap : Nat) (l : List (Int × Int)) (w : World) (ha : Prs w a l) :
    Calls Try.prog 13 #[.int .i64 n, .slice a l.length cap] w (ListOut (deepRes n l) w) := by
  have CM := Lib.hid (refOrder_core n a cap l w ha)
  have HA := Lib.hid ha
  clear ha
  by_cases hg : Good n l ∧ ¬ (ord n.toNat l).length < n.toNat
  · obtain ⟨hg, hnl⟩ := hg
    have hf : deepRes n l = (deepF n.toNat l, 0) := by unfold deepRes; rw [if_pos hg, if_neg hnl]
    have hf2 : ordRes n l = (ord n.toNat l, 0) := by unfold ordRes; rw [if_pos hg, if_neg hnl]
    rw [hf]
    rw [hf2] at CM
    obtain ⟨N, hN⟩ : ∃ N : Nat, n = (N : Int) := ⟨n.toNat, by have := hg.1; omega⟩
    subst hN
    have HP := Lib.hid hg.pairs
    have hN64 : (N : Int) < 65 := by have := hg.2.1; omega
    have HL : Hid (l.length ≤ 256) := hg.2.2.1
    have hL1 : (l.length : Int) < 257 := by have := HL.out; omega
    simp only [Int.toNat_natCast] at *
    have HOL : Hid ((ord N l).length ≤ N) := (ordG_ok N l N).len
    have hmk := fun w => run_mkI N (by omega) w
    clear hg hnl hf hf2
    go_enter Try.func13, Try.ntmps13
    go_wp2_with (go_at_call 11; ((with_reducible refine CM.out.mono ?_); rintro e w2 ⟨av, cv, rfl, hI, hB⟩; have HI := Lib.hid hI; have HB := Lib.hid hB; clear hI hB))
    have HR0 := Lib.hid (row_made w2 N)
    have HB0 : Hid (Below w2.heap.size w2 (w2.alloc (.cells (madeCells #[.int .i64 0] N) 3))) := (Below.refl _ _).alloc (Nat.le_refl _) _
    have HBW := Lib.hid HB.out.size
    clear hmk CM
    generalize w2.alloc (.cells (madeCells #[.int .i64 0] N) 3) = wm at *
    obtain ⟨xs, hxs⟩ : ∃ xs, Hid (ord N l = xs) := ⟨_, rfl⟩
    have HXR : Hid (∀ k, k < xs.length → 1 ≤ xs.getD k 0 ∧ xs.getD k 0 ≤ (N : Int)) := fun k hk => by have := hxs.out; subst this; exact ord_in hk
    have HDF : Hid (deepF N l = dpA l xs (List.replicate N 0)) := by show deepF N l = _; unfold deepF; rw [hxs.out]
    have HPA : Hid (Prs w2 a l) := HA.out.below HB.out
    rw [hxs.out] at HI HOL ⊢
    have hxl : (xs.length : Int) < 65 := by have := HOL.out; omega
    go_loopw [9] (fun v9 wr => ∃ (k : Nat) (o : List Int), k ≤ xs.length ∧ v9 = .int .i64 k ∧ Hid (o = dpA l (xs.take k) (List.replicate N 0)) ∧ Hid (InB o (257 * k) ∧ o.length = N) ∧ Hid (RowAt wr w2.heap.size (o.map (Value.int .i64))) ∧ Hid (Below w2.heap.size w2 wr)) (fun v9 _ => xs.length - (intOf v9).toNat)
    case atStart => exact ⟨0, List.replicate N 0, by omega, rfl, rfl, ⟨(InB.zero N).mono (by omega), List.length_replicate⟩, HR0, HB0⟩
    case round =>
      obtain ⟨k, o, hk, rfl, HOo, HBd, HRr, HBr⟩ := hrel
      by_cases hlt : k < xs.length
      · have hlt1 : (k : Int) < (xs.length : Int) := by omega
        have hk0 : (0 : Int) ≤ (k : Int) := by omega
        have hx := HXR.out k hlt
        have HSN := Lib.hid (dpA_snoc l xs k hlt (List.replicate N 0))
        rw [← HOo.out] at HSN
        obtain ⟨X, hX⟩ : ∃ X : Nat, Hid (xs.getD k 0 = (X : Int)) := ⟨(xs.getD k 0).toNat, by show _ = _; omega⟩
        have HCX : Hid (∀ wx, Below w2.heap.size w2 wx → ∃ b off, av = some ⟨b, off, none⟩ ∧ wx.cell? ⟨b, off + k, none⟩ = some (.int .i64 (X : Int)) ∧ b < w2.heap.size) := fun wx hB => by
          obtain ⟨b, off, ea, hb, c0⟩ := (In.Ints.below HI.out hB) k hlt
          obtain ⟨b', off', ea', hb', _⟩ := HI.out k hlt
          rw [ea] at ea'
          cases ea'
          rw [hX.out] at c0
          exact ⟨b, off, ea, c0, hb'⟩
        rw [hX.out] at hx HSN
        have hx1 : (1 : Int) ≤ (X : Int) := hx.1
        have hx2 : (X : Int) ≤ (N : Int) := hx.2
        obtain ⟨x1, hx1'⟩ : ∃ x1 : Nat, Hid (X = x1 + 1) := ⟨X - 1, by show _ = _; omega⟩
        have ex := hx1'.out
        have e1 : IntKind.i64.wrap ((X : Int) - 1) = (x1 : Int) := by rw [wrapEq]; unfold wrap64; omega
        have e2 : (X : Int) - 1 = (x1 : Int) := by omega
        have n1 : (0 : Int) ≤ (x1 : Int) := by omega
        have n2 : (x1 : Int) < (N : Int) := by omega
        have HX1 : Hid (((X : Int) - 1).toNat = x1 ∧ x1 < N) := ⟨by omega, by omega⟩
        clear hx hx1 hx2 ex hx1'
        obtain ⟨wo, rfl⟩ : ∃ wo : World, wo = wr := ⟨_, rfl⟩
        go_wp2
        go_loopw [10] (fun v10 wx => ∃ (i : Nat) (o2 : List Int), i ≤ l.length ∧ v10 = .int .i64 i ∧ Hid (o2 = dpN (X : Int) (ndsF (l.take i) (X : Int)) o) ∧ Hid (InB o2 (257 * k + i) ∧ o2.length = N) ∧ Hid (RowAt wx w2.heap.size (o2.map (Value.int .i64))) ∧ Hid (Below w2.heap.size w2 wx)) (fun v10 _ => l.length - (intOf v10).toNat)
        case atStart => exact ⟨0, o, by omega, rfl, rfl, ⟨HBd.out.1.mono (by omega), HBd.out.2⟩, HRr, HBr⟩
        case round =>
          obtain ⟨i, o2, hi2, rfl, HO2, HBd2, HR2, HB2⟩ := hrel
          by_cases hlti : i < l.length
          · obtain ⟨b, off, ea, c0, hb⟩ := HCX.out _ HB2.out
            rw [ea]
            replace ea := Lib.hid ea
            obtain ⟨b2, off2, ea2, hb2, c1, c2⟩ := (HPA.out.below HB2.out) i hlti
            rw [ea2]
            replace ea2 := Lib.hid ea2
            have hlti1 : (i : Int) < (l.length : Int) := by omega
            have hi0 : (0 : Int) ≤ (i : Int) := by omega
            have HSN2 := Lib.hid (dpR_snoc l (X : Int) i hlti o)
            rw [← HO2.out] at HSN2
            have hy := (HP.out (l.getD i (0, 0)) (by rw [List.getD_eq_getElem?_getD, List.getElem?_eq_getElem hlti]; exact List.getElem_mem _)).2
            obtain ⟨p, hp⟩ : ∃ A, Hid ((l.getD i (0, 0)).1 = A) := ⟨_, rfl⟩
            obtain ⟨Y, hY⟩ : ∃ Y : Nat, Hid ((l.getD i (0, 0)).2 = (Y : Int)) := ⟨((l.getD i (0, 0)).2).toNat, by show _ = _; omega⟩
            rw [hp.out] at c1 HSN2
            rw [hY.out] at c2 hy HSN2
            by_cases g : p = (X : Int)
            · have d1 : (p == (X : Int)) = true := by simp [g]
              rw [if_pos g] at HSN2
              obtain ⟨y1, hy1'⟩ : ∃ y1 : Nat, Hid (Y = y1 + 1) := ⟨Y - 1, by show _ = _; omega⟩
              have hol := HBd2.out.2
              have ey := hy1'.out
              have hx1n := HX1.out.2
              have cx := row_get HR2.out (i := x1) (by omega)
              have cy := row_get HR2.out (i := y1) (by omega)
              have fx := HR2.out.frozen x1
              have hbx := HBd2.out.1 x1
              have hby := HBd2.out.1 y1
              have HD1 : Hid (dp1 (X : Int) (Y : Int) o2 = o2.set x1 (max (o2.getD x1 0) (o2.getD y1 0 + 1))) := by
                show dp1 _ _ _ = _
                unfold dp1
                rw [HX1.out.1, show ((Y : Int) - 1).toNat = y1 by omega]
              have HBd3 : Hid (InB (dp1 (X : Int) (Y : Int) o2) (257 * k + (i + 1)) ∧ (dp1 (X : Int) (Y : Int) o2).length = N) := ⟨(HBd2.out.1.step _ _).mono (by omega), by rw [dp1_len]; exact hol⟩
              have HRs := Lib.hid (HR2.out.set x1)
              have e3 : IntKind.i64.wrap ((Y : Int) - 1) = (y1 : Int) := by rw [wrapEq]; unfold wrap64; omega
              have e4 : (Y : Int) - 1 = (y1 : Int) := by omega
              have n3 : (0 : Int) ≤ (y1 : Int) := by omega
              have n4 : (y1 : Int) < (N : Int) := by omega
              obtain ⟨P1, hP1⟩ : ∃ P1, Hid (o2.getD x1 0 = P1) := ⟨_, rfl⟩
              obtain ⟨P2, hP2⟩ : ∃ P2, Hid (o2.getD y1 0 = P2) := ⟨_, rfl⟩
              rw [hP1.out] at cx hbx HD1
              rw [hP2.out] at cy hby HD1
              obtain ⟨P3, hP3⟩ : ∃ P3, Hid (P2 + 1 = P3) := ⟨_, rfl⟩
              have e5 : IntKind.i64.wrap (P2 + 1) = P3 := by rw [wrapEq, ← hP3.out]; unfold wrap64; omega
              rw [hP3.out] at HD1
              clear hy1' ey hol hbx hby hy hx1n g
              go_wp2
              go_quiet (fail)
              go_wp2
              go_region
              go_wp2
              go_roundw
              case rel =>
                have hm : max P1 P3 = if P1 < P3 then P3 else P1 := by split <;> omega
                rw [hm] at HD1
                exact ⟨i + 1, dp1 (X : Int) (Y : Int) o2, hlti, by go_num, HSN2.out.symm, HBd3, by rw [HD1.out, List.map_set]; exact (HRs.out _).drew, (below_dN HB2.out (nq + 1)).setCell (p := ⟨w2.heap.size, x1, none⟩) (Nat.le_refl _) _⟩
              case measure => simp [intOf]; omega
            · have d1 : (p == (X : Int)) = false := beq_eq_false_iff_ne.2 g
              rw [if_neg g] at HSN2
              clear g hy
              go_wp2
              go_quiet (fail)
              go_wp2
              go_roundw
              case rel => exact ⟨i + 1, o2, hlti, by go_num, HSN2.out.symm, ⟨HBd2.out.1.mono (by omega), HBd2.out.2⟩, HR2.out.drewN _, below_dN HB2.out _⟩
              case measure => simp [intOf]; omega
          · have hie : i = l.length := by omega
            have hge : ¬ (i : Int) < (l.length : Int) := by omega
            have HO3 : Hid (o2 = dpA l (xs.take (k + 1)) (List.replicate N 0)) := by show _ = _; rw [HSN.out, HO2.out, hie, List.take_length]
            have HBd3 : Hid (InB o2 (257 * (k + 1 : Nat)) ∧ o2.length = N) := ⟨HBd2.out.1.mono (by have := HL.out; omega), HBd2.out.2⟩
            clear hlti hie
            go_wp2
            go_roundw
            case rel => exact ⟨k + 1, o2, hlt, by go_num, HO3, HBd3, HR2, HB2⟩
            case measure => simp [intOf]; omega
      · have hke : k = xs.length := by omega
        have hge : ¬ (k : Int) < (xs.length : Int) := by omega
        have HE : Hid (deepF N l = o) := by show _ = _; rw [HDF.out, HOo.out, hke, List.take_length]
        have hll := HBd.out.2
        clear hlt hke
        go_wp2
        go_ret2
        rw [HE.out]
        refine ⟨_, _, by rw [hll]; rfl, HRr.out.ints .i64 _ rfl, HB.out.trans (HBr.out.mono HBW.out)⟩
  · have CM2 : Hid (Calls Try.prog 11 #[.int .i64 n, .slice a l.length cap] w fun e w' => ∃ av cv, e = .returned (.tuple #[.slice av 0 cv, .int .i64 (deepRes n l).2]) ∧ Hid (Below w.heap.size w w')) := CM.out.mono fun e w' ⟨av, cv, e1, h2, h1⟩ => by
      by_cases h3 : Good n l
      · by_cases h4 : (ord n.toNat l).length < n.toNat
        · rw [show ordRes n l = ([], 9) by unfold ordRes; rw [if_pos h3, if_pos h4]] at e1
          rw [show deepRes n l = ([], 9) by unfold deepRes; rw [if_pos h3, if_pos h4]]
          exact ⟨av, cv, e1, h1⟩
        · exact absurd ⟨h3, h4⟩ hg
      · rw [show ordRes n l = ([], 1) by unfold ordRes; rw [if_neg h3]] at e1
        rw [show deepRes n l = ([], 1) by unfold deepRes; rw [if_neg h3]]
        exact ⟨av, cv, e1, h1⟩
    have HE : Hid ((deepRes n l).1 = []) := by
      show _ = _
      unfold deepRes
      split
      · split
        · rfl
        · exact absurd ⟨‹_›, ‹_›⟩ hg
      · rfl
    have hd : (deepRes n l).2 = 1 ∨ (deepRes n l).2 = 9 := by
      unfold deepRes
      split
      · split
        · exact .inr rfl
        · exact absurd ⟨‹_›, ‹_›⟩ hg
      · exact .inl rfl
    obtain ⟨r, hr⟩ : ∃ r, Hid (deepRes n l = r) := ⟨_, rfl⟩
    rw [hr.out] at CM2 HE hd ⊢
    clear CM hg
    obtain ⟨r1, r2⟩ := r
    simp only at HE hd CM2
    rcases hd with rfl | rfl
    · go_enter Try.func13, Try.ntmps13
      go_wp2_with (go_at_call 11; ((with_reducible refine CM2.out.mono ?_); rintro e w2 ⟨av, cv, rfl, HB⟩))
      go_ret2
      rw [show r1 = [] from HE.out]
      exact ⟨_, _, rfl, fun i hi => absurd hi (Nat.not_lt_zero i), HB.out⟩
    · go_enter Try.func13, Try.ntmps13
      go_wp2_with (go_at_call 11; ((with_reducible refine CM2.out.mono ?_); rintro e w2 ⟨av, cv, rfl, HB⟩))
      go_ret2
      rw [show r1 = [] from HE.out]
      exact ⟨_, _, rfl, fun i hi => absurd hi (Nat.not_lt_zero i), HB.out⟩
end Gra
end Go.Proofs.Ytjdkkldlghdojaa
