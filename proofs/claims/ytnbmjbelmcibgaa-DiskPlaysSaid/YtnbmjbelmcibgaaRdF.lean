/- The document's disk: a file is cut: the walk. -/
import Derived.Test.YtnbmjbelmcibgaaRdE
set_option linter.unusedSimpArgs false
set_option linter.unusedVariables false
namespace Go.Proofs.Ytnbmjbelmcibgaa
open Go.RowKit Go.Great Go.Maps
namespace Dsk
set_option maxRecDepth 100000 in
set_option maxHeartbeats 4000000 in
theorem rcut_any (w : World) (g B : Nat) (v : Value) (d : DkIn) (h : RD w g B v d) (hd : Dok d) (hn : d.files.length < 90000) (hl : ∀ f ∈ d.files, f.by'.length ≤ 1000000000) (s : ByteArray) (z : Int) : Calls Try.prog 34 #[.pointer (some ⟨g, 0, none⟩), .string s, .int .i64 z] w fun e w' => e = .returned (.int .i64 (cutV d s.data.toList z).1) ∧ (∃ v', Hid (RD w' g B v' (cutV d s.data.toList z).2)) ∧ Hid (Below B w w') := by
  have HP := Lib.hid h
  have hbs := h.hB
  have CO : Hid (Calls Try.prog 44 #[.pointer (some ⟨g, 0, none⟩)] w fun e w' => e = .returned (.tuple #[.bool (opV d).1, .int .i64 (opV d).2.1]) ∧ Hid (RD w' g B v (opV d).2.2) ∧ Hid (Bx g g w w')) := rop_any w g B v d h hd
  obtain ⟨c0, -, -, -, -, c5⟩ := h.cells
  obtain ⟨L, hL⟩ : ∃ L, Hid (d.files.length = L) := ⟨_, rfl⟩
  obtain ⟨a, cap, rfl, HR⟩ := h.form hL.out
  have HR := Lib.hid HR
  clear h
  cases hdd : d.dead with
  | true =>
    have e : cutV d s.data.toList z = (14, d) := by unfold cutV; rw [hdd, if_pos rfl]
    rw [e]
    rw [hdd] at c5
    go_enter Try.func34, Try.ntmps34
    go_wp2
    go_ret
    exact ⟨rfl, ⟨_, HP.out⟩, Below.refl _ _⟩
  | false =>
    rw [hdd] at c5
    cases hf : find s.data.toList d.files with
    | none =>
      have e : cutV d s.data.toList z = (3, d) := by unfold cutV; rw [hdd, if_neg (by decide), hf]
      rw [e]
      have CF := Lib.hid (rfind_none w g B _ d HP.out (by omega) s hf)
      go_enter Try.func34, Try.ntmps34
      go_wp2_with (go_at_call 42; (with_reducible refine CF.out.mono ?_); rintro e w1 ⟨rfl, rfl⟩)
      go_ret
      exact ⟨rfl, ⟨_, HP.out⟩, Below.refl _ _⟩
    | some f =>
      obtain ⟨k, hk, ek, hcf⟩ := rfind_some w g B _ d HP.out hd.fok (by omega) s hf
      have CF := Lib.hid hcf
      obtain ⟨gv, rfl, hg1, hg2, hg3, x0, x1, x2⟩ := HR.out k hk
      have hfn := ((find_some hd.fok.rise _ f).1 hf).2
      have hfl : f.by'.length ≤ 1000000000 := hl f ((find_some hd.fok.rise _ f).1 hf).1
      rw [ek] at x0 x1 x2
      have hk0 : (0 : Int) ≤ (k : Int) := by omega
      have hkn : ¬ (k : Int) < 0 := by omega
      have hk1 : decide ((k : Int) < 0) = false := decide_eq_false hkn
      have hkL : (k : Int) < (L : Int) := by have := hL.out; omega
      have hsz : (ByteArray.mk f.by'.toArray).size = f.by'.length := by show f.by'.toArray.size = _; rw [List.size_toArray]
      clear hcf
      by_cases hz : z < 0 ∨ (f.by'.length : Int) < z
      · have e3 : cutV d s.data.toList z = (1, d) := by
          unfold cutV
          rw [hdd, if_neg (by decide), hf]
          exact if_pos hz
        rw [e3]
        by_cases h0 : z < 0
        · have d0 : decide (z < 0) = true := decide_eq_true h0
          clear x0 x1 x2
          go_enter Try.func34, Try.ntmps34
          go_wp2_with (go_at_call 42; (with_reducible refine CF.out.mono ?_); rintro e w1 ⟨rfl, rfl⟩)
          go_ret
          exact ⟨rfl, ⟨_, HP.out⟩, Below.refl _ _⟩
        · have d0 : decide (z < 0) = false := decide_eq_false h0
          have h1 : (f.by'.length : Int) < z := hz.resolve_left h0
          have d1 : decide ((f.by'.length : Int) < z) = true := decide_eq_true h1
          clear x0 x2
          go_enter Try.func34, Try.ntmps34
          go_wp2_with (go_at_call 42; (with_reducible refine CF.out.mono ?_); rintro e w1 ⟨rfl, rfl⟩)
          go_ret
          exact ⟨rfl, ⟨_, HP.out⟩, Below.refl _ _⟩
      · obtain ⟨N, rfl⟩ : ∃ N : Nat, z = N := ⟨z.toNat, by omega⟩
        have hN : N ≤ f.by'.length := by omega
        have e3 : cutV d s.data.toList N = ((opV d).2.1, if (opV d).1 then { (opV d).2.2 with files := ((opV d).2.2.files.set k ⟨s.data.toList, f.by'.take N, f.sure⟩).set k ⟨s.data.toList, f.by'.take N, min f.sure N⟩ } else (opV d).2.2) := by
          unfold cutV
          rw [hdd, if_neg (by decide), hf]
          dsimp only
          rw [if_neg hz, Int.toNat_natCast, op_files, put_set hd.fok k hk ⟨s.data.toList, f.by'.take N, min f.sure N⟩ (by rw [ek, hfn]), List.set_set]
        have HS1 : Hid (∀ (W : World), RD W g B (.slice (some ⟨gv, 0, none⟩) L cap) (opV d).2.2 → RD (W.setCell ⟨gv, k * 3 + 1, none⟩ (.string ⟨(f.by'.take N).toArray⟩)) g B (.slice (some ⟨gv, 0, none⟩) L cap) { (opV d).2.2 with files := (opV d).2.2.files.set k ⟨s.data.toList, f.by'.take N, f.sure⟩ } ∧ Bx g gv W (W.setCell ⟨gv, k * 3 + 1, none⟩ (.string ⟨(f.by'.take N).toArray⟩)) ∧ B ≤ gv ∧ gv < W.heap.size) := fun W hW => hW.setAt (by rw [op_files]; exact hL.out) k 1 (by rw [op_files]; exact hk) (by decide) _ ⟨s.data.toList, f.by'.take N, f.sure⟩ (by simp only [op_files, ek]; rw [← hfn]; rfl)
        have HS2 : Hid (∀ (W : World), RD W g B (.slice (some ⟨gv, 0, none⟩) L cap) { (opV d).2.2 with files := (opV d).2.2.files.set k ⟨s.data.toList, f.by'.take N, f.sure⟩ } → RD (W.setCell ⟨gv, k * 3 + 2, none⟩ (.int .i64 ((min f.sure N : Nat) : Int))) g B (.slice (some ⟨gv, 0, none⟩) L cap) { (opV d).2.2 with files := ((opV d).2.2.files.set k ⟨s.data.toList, f.by'.take N, f.sure⟩).set k ⟨s.data.toList, f.by'.take N, min f.sure N⟩ } ∧ Bx g gv W (W.setCell ⟨gv, k * 3 + 2, none⟩ (.int .i64 ((min f.sure N : Nat) : Int))) ∧ B ≤ gv ∧ gv < W.heap.size) := fun W hW => hW.setAt (by rw [List.length_set, op_files]; exact hL.out) k 2 (by rw [List.length_set, op_files]; exact hk) (by decide) _ ⟨s.data.toList, f.by'.take N, min f.sure N⟩ (by simp only [List.getElem_set_self]; rfl)
        have HFR : Hid (∀ (W : World) (dd : DkIn) j, dd.files.length = L → RD W g B (.slice (some ⟨gv, 0, none⟩) L cap) dd → W.frozen? ⟨gv, j, none⟩ = false) := fun W dd j hlen hW => by
          have ho := hW.own
          rw [hlen] at ho
          exact ho.frozenAt j
        have hL1 : Hid ((opV d).2.2.files.length = L) := by show _ = _; rw [op_files]; exact hL.out
        rw [e3]
        have h0 : ¬ (N : Int) < 0 := by omega
        have d0 : decide ((N : Int) < 0) = false := decide_eq_false h0
        have h1 : ¬ (f.by'.length : Int) < (N : Int) := by omega
        have d1 : decide ((f.by'.length : Int) < (N : Int)) = false := decide_eq_false h1
        have hN1 : (N : Int) ≤ (f.by'.length : Int) := by omega
        have hN0 : (0 : Int) ≤ (N : Int) := by omega
        have qx : (ByteArray.mk f.by'.toArray).extract 0 N = ⟨(f.by'.take N).toArray⟩ := by
          apply ByteArray.ext
          simp [ByteArray.extract, ByteArray.copySlice]
        have qm : min (f.sure : Int) (N : Int) = ((min f.sure N : Nat) : Int) := by omega
        clear e3 hz
        obtain ⟨r, hr⟩ : ∃ r, Hid (opV d = r) := ⟨_, rfl⟩
        rw [hr.out] at CO HS1 HS2 hL1 ⊢
        clear hr
        obtain ⟨r1, r2, r3⟩ := r
        dsimp only at CO HS1 HS2 hL1 ⊢
        cases r1 with
        | false =>
          rw [if_neg (by decide)]
          go_enter Try.func34, Try.ntmps34
          go_wp2_with (first | (go_at_call 42; (with_reducible refine CF.out.mono ?_); rintro e w1 ⟨rfl, rfl⟩) | (go_at_call 44; (with_reducible refine CO.out.mono ?_); rintro e w2 ⟨rfl, HP2, HX2⟩))
          go_ret
          exact ⟨rfl, ⟨_, HP2.out⟩, HX2.out.toB hbs HP.out.lo HP.out.lo⟩
        | true =>
          rw [if_pos rfl]
          go_enter Try.func34, Try.ntmps34
          go_upto_region 10 with (first | (go_at_call 42; (with_reducible refine CF.out.mono ?_); rintro e w1 ⟨rfl, rfl⟩) | (go_at_call 44; (with_reducible refine CO.out.mono ?_); rintro e w2 ⟨rfl, HP2, HX2⟩))
          obtain ⟨c0, -⟩ := HP2.out.cells
          have y1 : w2.cell? ⟨gv, k * 3 + 1, none⟩ = some (.string ⟨f.by'.toArray⟩) := by
            unfold World.cell? at x1 ⊢
            rw [HX2.out.block gv hg2 hg3 hg3]
            exact x1
          have y2 : w2.cell? ⟨gv, k * 3 + 2, none⟩ = some (.int .i64 f.sure) := by
            unfold World.cell? at x2 ⊢
            rw [HX2.out.block gv hg2 hg3 hg3]
            exact x2
          have fz := HFR.out w2 _ (k * 3 + 1) hL1.out HP2.out
          clear x0 x1 x2
          go_still_tail 17, (by kernel_rfl)
          change wpList _ _ _ _ _ w2.drew
          have HP3 := Lib.hid (HP2.out.below (Below.refl w2.heap.size w2).drew)
          have HX3 : Hid (Bx g g w w2.drew) := HX2.out.trans (Bx.below (Below.refl w2.heap.size w2).drew)
          obtain ⟨z0, z1, z2, z3⟩ : w2.drew.cell? ⟨g, 0, none⟩ = _ ∧ w2.drew.cell? ⟨gv, k * 3 + 1, none⟩ = _ ∧ w2.drew.frozen? ⟨gv, k * 3 + 1, none⟩ = _ ∧ w2.drew.cell? ⟨gv, k * 3 + 2, none⟩ = _ := ⟨c0, y1, fz, y2⟩
          clear c0 y1 y2 fz HP2 HX2
          generalize w2.drew = w3 at *
          have HS3 := Lib.hid (HS1.out w3 HP3.out)
          have u2 : (w3.setCell ⟨gv, k * 3 + 1, none⟩ (.string ⟨(f.by'.take N).toArray⟩)).cell? ⟨gv, k * 3 + 2, none⟩ = some (.int .i64 f.sure) := by
            rw [World.cell?_setCell_other]
            · exact z3
            · simp
          obtain ⟨u0, -⟩ := HS3.out.1.cells
          have fz2 := HFR.out _ _ (k * 3 + 2) (by rw [List.length_set]; exact hL1.out) HS3.out.1
          go_upto_region 11 with (fail)
          generalize w3.setCell ⟨gv, k * 3 + 1, none⟩ (.string ⟨(f.by'.take N).toArray⟩) = w4 at *
          clear z0 z1 z2 z3
          go_still_tail 17, (by kernel_rfl)
          change wpList _ _ _ _ _ w4.drew
          have HP5 := Lib.hid (HS3.out.1.below (Below.refl w4.heap.size w4).drew)
          have HX5 : Hid (Bx g gv w3 w4.drew) := HS3.out.2.1.trans (Bx.below (Below.refl w4.heap.size w4).drew)
          have HGV : Hid (B ≤ gv) := HS3.out.2.2.1
          obtain ⟨z0, z2, z3⟩ : w4.drew.cell? ⟨g, 0, none⟩ = _ ∧ w4.drew.frozen? ⟨gv, k * 3 + 2, none⟩ = _ ∧ w4.drew.cell? ⟨gv, k * 3 + 2, none⟩ = _ := ⟨u0, fz2, u2⟩
          clear u0 fz2 u2 HS3
          generalize w4.drew = w5 at *
          have HS5 := Lib.hid (HS2.out w5 HP5.out)
          go_wp2
          go_ret
          have b1 := HX3.out.toB hbs HP.out.lo HP.out.lo
          have b2 := HX5.out.toB (Nat.le_trans hbs HX3.out.size) HP.out.lo HGV.out
          have b3 := HS5.out.2.1.toB (Nat.le_trans (Nat.le_trans hbs HX3.out.size) HX5.out.size) HP.out.lo HGV.out
          exact ⟨rfl, ⟨_, HS5.out.1⟩, (b1.trans b2).trans b3⟩
end Dsk
end Go.Proofs.Ytnbmjbelmcibgaa
