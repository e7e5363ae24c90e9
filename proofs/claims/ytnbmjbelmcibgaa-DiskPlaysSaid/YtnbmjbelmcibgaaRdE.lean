/- The document's disk: all bytes of a file are sure: the walk. -/
import Derived.Test.YtnbmjbelmcibgaaRdD
import Derived.StillTailTactics
import Derived.Deep.Cut
set_option linter.unusedSimpArgs false
set_option linter.unusedVariables false
namespace Go.Proofs.Ytnbmjbelmcibgaa
open Go.RowKit Go.Great Go.Maps
namespace Dsk
theorem fvals_set (j : Nat) (u : Value) (hj : j < 3) : ∀ (l : List FileIn) (k : Nat) (hk : k < l.length) (f' : FileIn), (fcells l[k]).set j u = fcells f' → (fileVals l).set (k * 3 + j) u = fileVals (l.set k f')
  | [], k, hk, f', h => absurd hk (Nat.not_lt_zero k)
  | a :: l, 0, hk, f', h => by
    show (fcells a ++ fileVals l).set (0 * 3 + j) u = fcells f' ++ fileVals l
    have e : (fcells a).length = 3 := rfl
    rw [Nat.zero_mul, Nat.zero_add, List.set_append_left _ _ (by rw [e]; exact hj)]
    rw [← h]
    rfl
  | a :: l, k + 1, hk, f', h => by
    show (fcells a ++ fileVals l).set ((k + 1) * 3 + j) u = fcells a ++ fileVals (l.set k f')
    have e : (fcells a).length = 3 := rfl
    rw [List.set_append_right _ _ (by rw [e]; omega), e, show (k + 1) * 3 + j - 3 = k * 3 + j from by omega]
    rw [fvals_set j u hj l k (by simpa using hk) f' h]
/-- A file is put where it was. -/
theorem put_set {l : List FileIn} (h : Fok l) (k : Nat) (hk : k < l.length) (g : FileIn) (e : g.nm = l[k].nm) : putF g l = l.set k g := by
  have hl : l = l.take k ++ l[k] :: l.drop (k + 1) := by
    rw [← List.drop_eq_getElem_cons hk, List.take_append_drop]
  have hr := h.rise
  have h1 : putF g (l.take k ++ l[k] :: l.drop (k + 1)) = l.take k ++ g :: l.drop (k + 1) := put_mid (f := l[k]) e (by rw [← hl]; exact hr)
  rw [← hl] at h1
  rw [h1, List.set_eq_take_append_cons_drop, if_pos hk]
/-- A cell of a file is set anew. -/
theorem RD.setAt {w : World} {g B gv L cap : Nat} {d : DkIn} (h : RD w g B (.slice (some ⟨gv, 0, none⟩) L cap) d) (hL : d.files.length = L) (k j : Nat) (hk : k < d.files.length) (hj : j < 3) (u : Value) (f' : FileIn) (hf : (fcells d.files[k]).set j u = fcells f') : RD (w.setCell ⟨gv, k * 3 + j, none⟩ u) g B (.slice (some ⟨gv, 0, none⟩) L cap) { d with files := d.files.set k f' } ∧ Bx g gv w (w.setCell ⟨gv, k * 3 + j, none⟩ u) ∧ B ≤ gv ∧ gv < w.heap.size := by
  have hne : gv ≠ g := fun e => h.ne (by rw [e]; rfl)
  have ho := h.own
  rw [hL] at ho
  obtain ⟨o1, o2⟩ := ho.stored (k * 3 + j) u
  rw [fvals_set j u hj d.files k hk f' hf] at o1
  refine ⟨⟨h.row.of_block (o2.block g h.lt fun e => hne (Option.some.inj e).symm), ?_, h.ne, h.lo⟩, ⟨o2.os, o2.tape, o2.output, o2.size, fun i hi _ h2 => o2.block i hi fun e => h2 (Option.some.inj e)⟩, ho.lt gv rfl⟩
  show (w.setCell ⟨gv, k * 3 + j, none⟩ u).ownsRow B 70 3 _ (d.files.set k f').length _
  rw [List.length_set, hL]
  exact o1
theorem Bx.toB {g m B : Nat} {a b : World} (h : Bx g m a b) (hB : B ≤ a.heap.size) (hg : B ≤ g) (hm : B ≤ m) : Below B a b := h.toBelow hB hg hm
set_option maxRecDepth 100000 in
set_option maxHeartbeats 4000000 in
theorem rsync_any (w : World) (g B : Nat) (v : Value) (d : DkIn) (h : RD w g B v d) (hd : Dok d) (hn : d.files.length < 90000) (s : ByteArray) : Calls Try.prog 33 #[.pointer (some ⟨g, 0, none⟩), .string s] w fun e w' => e = .returned (.int .i64 (syncV d s.data.toList).1) ∧ (∃ v', Hid (RD w' g B v' (syncV d s.data.toList).2)) ∧ Hid (Below B w w') := by
  have HP := Lib.hid h
  have hbs := h.hB
  have CO : Hid (Calls Try.prog 44 #[.pointer (some ⟨g, 0, none⟩)] w fun e w' => e = .returned (.tuple #[.bool (opV d).1, .int .i64 (opV d).2.1]) ∧ Hid (RD w' g B v (opV d).2.2) ∧ Hid (Bx g g w w')) := rop_any w g B v d h hd
  obtain ⟨c0, -, -, -, -, c5⟩ := h.cells
  obtain ⟨L, hL⟩ : ∃ L, Hid (d.files.length = L) := ⟨_, rfl⟩
  obtain ⟨a, cap, rfl, HR⟩ := h.form hL.out
  have HR := Lib.hid HR
  clear h
  cases hdd : d.dead with
  | true =>
    have e : syncV d s.data.toList = (14, d) := by unfold syncV; rw [hdd, if_pos rfl]
    rw [e]
    rw [hdd] at c5
    go_enter Try.func33, Try.ntmps33
    go_wp2
    go_ret
    exact ⟨rfl, ⟨_, HP.out⟩, Below.refl _ _⟩
  | false =>
    rw [hdd] at c5
    cases hf : find s.data.toList d.files with
    | none =>
      have e : syncV d s.data.toList = (3, d) := by unfold syncV; rw [hdd, if_neg (by decide), hf]
      rw [e]
      have CF := Lib.hid (rfind_none w g B _ d HP.out (by omega) s hf)
      go_enter Try.func33, Try.ntmps33
      go_wp2_with (go_at_call 42; (with_reducible refine CF.out.mono ?_); rintro e w1 ⟨rfl, rfl⟩)
      go_ret
      exact ⟨rfl, ⟨_, HP.out⟩, Below.refl _ _⟩
    | some f =>
      obtain ⟨k, hk, ek, hcf⟩ := rfind_some w g B _ d HP.out hd.fok (by omega) s hf
      have CF := Lib.hid hcf
      obtain ⟨gv, rfl, hg1, hg2, hg3, x0, x1, x2⟩ := HR.out k hk
      have hfn := ((find_some hd.fok.rise _ f).1 hf).2
      have e3 : syncV d s.data.toList = ((opV d).2.1, if (opV d).1 then { (opV d).2.2 with files := (opV d).2.2.files.set k ⟨s.data.toList, f.by', f.by'.length⟩ } else (opV d).2.2) := by
        unfold syncV
        rw [hdd, if_neg (by decide), hf]
        dsimp only
        rw [op_files, put_set hd.fok k hk ⟨s.data.toList, f.by', f.by'.length⟩ (by rw [ek, hfn])]
      have HSET : Hid (∀ (W : World), RD W g B (.slice (some ⟨gv, 0, none⟩) L cap) (opV d).2.2 → RD (W.setCell ⟨gv, k * 3 + 2, none⟩ (.int .i64 (f.by'.length : Int))) g B (.slice (some ⟨gv, 0, none⟩) L cap) { (opV d).2.2 with files := (opV d).2.2.files.set k ⟨s.data.toList, f.by', f.by'.length⟩ } ∧ Bx g gv W (W.setCell ⟨gv, k * 3 + 2, none⟩ (.int .i64 (f.by'.length : Int))) ∧ B ≤ gv ∧ gv < W.heap.size) := fun W hW => hW.setAt (by rw [op_files]; exact hL.out) k 2 (by rw [op_files]; exact hk) (by decide) _ ⟨s.data.toList, f.by', f.by'.length⟩ (by simp only [op_files, ek]; rw [← hfn]; rfl)
      have HFR : Hid (∀ (W : World) j, RD W g B (.slice (some ⟨gv, 0, none⟩) L cap) (opV d).2.2 → W.frozen? ⟨gv, j, none⟩ = false) := fun W j hW => by
        have ho := hW.own
        rw [op_files, hL.out] at ho
        exact ho.frozenAt j
      rw [e3]
      rw [ek] at x0 x1 x2
      have hk0 : (0 : Int) ≤ (k : Int) := by omega
      have hkn : ¬ (k : Int) < 0 := by omega
      have hk1 : decide ((k : Int) < 0) = false := decide_eq_false hkn
      have hkL : (k : Int) < (L : Int) := by have := hL.out; omega
      have hsz : (ByteArray.mk f.by'.toArray).size = f.by'.length := by show f.by'.toArray.size = _; rw [List.size_toArray]
      clear hcf e3
      obtain ⟨r, hr⟩ : ∃ r, Hid (opV d = r) := ⟨_, rfl⟩
      rw [hr.out] at CO HSET HFR ⊢
      clear hr
      obtain ⟨r1, r2, r3⟩ := r
      dsimp only at CO HSET HFR ⊢
      cases r1 with
      | false =>
        rw [if_neg (by decide)]
        go_enter Try.func33, Try.ntmps33
        go_wp2_with (first
          | (go_at_call 42; (with_reducible refine CF.out.mono ?_); rintro e w1 ⟨rfl, rfl⟩)
          | (go_at_call 44; (with_reducible refine CO.out.mono ?_); rintro e w2 ⟨rfl, HP2, HX2⟩))
        go_ret
        exact ⟨rfl, ⟨_, HP2.out⟩, HX2.out.toB hbs HP.out.lo HP.out.lo⟩
      | true =>
        rw [if_pos rfl]
        go_enter Try.func33, Try.ntmps33
        go_upto_region 8 with (first
          | (go_at_call 42; (with_reducible refine CF.out.mono ?_); rintro e w1 ⟨rfl, rfl⟩)
          | (go_at_call 44; (with_reducible refine CO.out.mono ?_); rintro e w2 ⟨rfl, HP2, HX2⟩))
        obtain ⟨c0, -⟩ := HP2.out.cells
        have y1 : w2.cell? ⟨gv, k * 3 + 1, none⟩ = some (.string ⟨f.by'.toArray⟩) := by
          unfold World.cell? at x1 ⊢
          rw [HX2.out.block gv hg2 hg3 hg3]
          exact x1
        have y2 : w2.cell? ⟨gv, k * 3 + 2, none⟩ = some (.int .i64 f.sure) := by
          unfold World.cell? at x2 ⊢
          rw [HX2.out.block gv hg2 hg3 hg3]
          exact x2
        have fz := HFR.out w2 (k * 3 + 2) HP2.out
        clear x0 x1 x2
        go_still_tail 16, (by kernel_rfl)
        change wpList _ _ _ _ _ w2.drew
        have HP3 := Lib.hid (HP2.out.below (Below.refl w2.heap.size w2).drew)
        have HX3 : Hid (Bx g g w w2.drew) := HX2.out.trans (Bx.below (Below.refl w2.heap.size w2).drew)
        obtain ⟨z0, z1, z2, z3⟩ : w2.drew.cell? ⟨g, 0, none⟩ = _ ∧ w2.drew.cell? ⟨gv, k * 3 + 1, none⟩ = _ ∧ w2.drew.frozen? ⟨gv, k * 3 + 2, none⟩ = _ ∧ w2.drew.cell? ⟨gv, k * 3 + 2, none⟩ = _ := ⟨c0, y1, fz, y2⟩
        clear c0 y1 y2 fz HP2 HX2
        generalize w2.drew = w3 at *
        have HS3 := Lib.hid (HSET.out w3 HP3.out)
        go_wp2
        go_ret
        exact ⟨rfl, ⟨_, HS3.out.1⟩, (HX3.out.toB hbs HP.out.lo HP.out.lo).trans (HS3.out.2.1.toB (Nat.le_trans hbs HX3.out.size) HP.out.lo HS3.out.2.2.1)⟩
end Dsk
end Go.Proofs.Ytnbmjbelmcibgaa
