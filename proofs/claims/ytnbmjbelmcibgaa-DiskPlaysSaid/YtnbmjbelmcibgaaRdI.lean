/- The document's disk: a crash: the walk. -/
import Derived.Test.YtnbmjbelmcibgaaRdH
set_option linter.unusedSimpArgs false
set_option linter.unusedVariables false
namespace Go.Proofs.Ytnbmjbelmcibgaa
open Go.RowKit Go.Great Go.Maps
namespace Dsk
/-- One file behind a row of one's own, at an operation. -/
theorem one_file {P : Program} {o : Oper} {a : Act} {w : World} {K : Act → World → Prop} {Q : Exit → Act → World → Prop} (s x : Operand) (t : TypeId)
    (ho : o.op = .call { callee := .builtin .append, args := #[s, x], argTypes := #[t, t] })
    (base : Nat) (e : TypeId) (i : TypeInfo) (z : Value) (bytes : Nat) (ht : P.underlying t = some (.slice e)) (hi : P.info? e = some i) (hz : i.zero = some z)
    (hsize : i.size = 3) (hby : i.bytes = bytes) (hzs : z.cells.size = 3)
    (v : Value) (l : List FileIn) (n : Nat) (hs : a.eval s = v) (ad : Addr) (c : Nat) (f : FileIn) (hx : a.eval x = .slice (some ad) 1 c) (hown : w.ownsRow base e 3 v n (fileVals l))
    (hu0 : w.cell? (ad.add 0) = some (.string ⟨f.nm.toArray⟩)) (hu1 : w.cell? (ad.add 1) = some (.string ⟨f.by'.toArray⟩)) (hu2 : w.cell? (ad.add 2) = some (.int .i64 f.sure)) (h63 : n + 1 ≤ maxLen) (hbytes : (n + 1) * bytes ≤ 140737488355328) (hbase : base ≤ w.heap.size)
    (h : ∀ v' w', w'.ownsRow base e 3 v' (n + 1) (fileVals (l ++ [f])) → w.grownBy w' v.ownBlock → K (a.put o.dst v') w') : o.wp P a w K Q :=
  wp_append_own w s x t ho base e i z 3 bytes ht hi hz hsize hby hzs (by decide) v n (fileVals l) hs hown ad 1 c (fcells f) hx rfl
    (fun j u hj => by
      match j, hj with
      | 0, hj => simp [fcells] at hj; subst hj; exact hu0
      | 1, hj => simp [fcells] at hj; subst hj; exact hu1
      | 2, hj => simp [fcells] at hj; subst hj; exact hu2
      | j + 3, hj => simp [fcells] at hj) (fun u hw => by simp [fcells] at hw; rcases hw with rfl | rfl | rfl <;> rfl) h63 hbytes hbase
    (fun v' w' hown' hgrow _ => h v' w' (by rw [fvals_append]; simpa [fileVals] using hown') hgrow)
theorem crash_take (keep : List Int) (l : List FileIn) (k : Nat) (h : k < l.length) : crashF keep 0 (l.take (k + 1)) = crashF keep 0 (l.take k) ++ if leftOf keep k l[k] = 0 then [] else [⟨l[k].nm, l[k].by'.take (leftOf keep k l[k]), leftOf keep k l[k]⟩] := by
  rw [List.take_succ_eq_append_getElem h, crash_append, List.length_take, Nat.min_eq_left (by omega), Nat.zero_add, crash_cons]
  split <;> rfl
set_option maxRecDepth 100000 in
set_option maxHeartbeats 8000000 in
theorem rcrash_any (W0 w : World) (g B : Nat) (v : Value) (d : DkIn) (h : RD w g B v d) (hd : Fok d.files) (hn : d.files.length < 80000) (hl : ∀ f ∈ d.files, f.by'.length ≤ 1000000000) (kv : Value) (keep : List Int) (hk : In.IsInts .i64 W0 kv keep) (hw : Below W0.heap.size W0 w) : Calls Try.prog 37 #[.pointer (some ⟨g, 0, none⟩), kv] w fun e w' => e = .returned (.int .i64 0) ∧ (∃ v', Hid (RD w' g B v' (crashV d keep))) ∧ Hid (Below B w w') := by
  obtain ⟨i0, hi0, hz0, hz1, hz2⟩ := info_parts infoF
  obtain ⟨ka, kcap, rfl, hkl, hka, hkw, -, -⟩ := hk
  unfold maxLen at hkl
  have HK := Lib.hid hka
  have HW := Lib.hid hw
  obtain ⟨L, hL⟩ : ∃ L, Hid (d.files.length = L) := ⟨_, rfl⟩
  have hLb : L < 80000 := by have := hL.out; omega
  obtain ⟨c0, c1, c2, c3, c4, c5⟩ := h.cells
  have hgl := h.lt
  have HP := Lib.hid h
  obtain ⟨a, cap, rfl, HR⟩ := h.form hL.out
  have HR := Lib.hid HR
  have HF := Lib.hid hd
  have HL := Lib.hid hl
  clear h hka hw hd hl
  go_enter Try.func37, Try.ntmps37
  go_wp2
  go_loopw [5, 6] (fun x5 x6 wr => ∃ k : Nat, x6 = .int .i64 (k : Int) ∧ k ≤ L ∧ Hid (wr.ownsRow w.heap.size 70 3 x5 (crashF keep 0 (d.files.take k)).length (fileVals (crashF keep 0 (d.files.take k)))) ∧ Hid (Below w.heap.size w wr)) (fun _ x _ => L - (intOf x).toNat)
  case atStart => exact ⟨0, rfl, Nat.zero_le _, World.ownsRow_nil _ _ _ _, Below.refl _ _⟩
  case round =>
    obtain ⟨k, rfl, hk, HO, HB⟩ := hrel
    have p0 := (HB.out.cell (p := ⟨g, 0, none⟩) hgl).trans c0
    have hgr : g < wr.heap.size := Nat.lt_of_lt_of_le hgl HB.out.size
    by_cases hkl : k < L
    · have dk : decide ((k : Int) < (L : Int)) = true := decide_eq_true (by omega)
      have hkl2 : k < d.files.length := by rw [hL.out]; exact hkl
      obtain ⟨gv, rfl, hg1, hg2, hg3, x0, x1, x2⟩ := HR.out k hkl2
      replace x0 := (HB.out.cell (p := ⟨gv, k * 3, none⟩) hg2).trans x0
      replace x1 := (HB.out.cell (p := ⟨gv, k * 3 + 1, none⟩) hg2).trans x1
      replace x2 := (HB.out.cell (p := ⟨gv, k * 3 + 2, none⟩) hg2).trans x2
      have hgvr : gv < wr.heap.size := Nat.lt_of_lt_of_le hg2 HB.out.size
      have HT := Lib.hid (crash_take keep d.files k hkl2)
      have HLn : Hid ((crashF keep 0 (d.files.take k)).length ≤ L) := by
        have := crash_len keep (d.files.take k) 0
        rw [List.length_take] at this
        exact Nat.le_trans this (by omega)
      have hfl : d.files[k].by'.length ≤ 1000000000 := HL.out _ (List.getElem_mem hkl2)
      have hfs : d.files[k].sure ≤ d.files[k].by'.length := HF.out.sure _ (List.getElem_mem hkl2)
      generalize d.files[k] = f at *
      obtain ⟨fn, fb, fs⟩ := f
      dsimp only at *
      have hsz : (ByteArray.mk fb.toArray).size = fb.length := by show fb.toArray.size = _; rw [List.size_toArray]
      by_cases hik : k < keep.length
      · have dkk : decide ((k : Int) < (keep.length : Int)) = true := decide_eq_true (by omega)
        obtain ⟨kb, koff, rfl, hkb, hkc⟩ := HK.out k hik
        have hkc2 : wr.cell? ⟨kb, koff + k, none⟩ = some (.int .i64 (keep.getD k 0)) := by
          have hb := HW.out.trans (HB.out.mono HW.out.size)
          exact (hb.cell (p := ⟨kb, koff + k, none⟩) hkb).trans hkc
        have hkbr : kb < wr.heap.size := Nat.lt_of_lt_of_le hkb (Nat.le_trans HW.out.size HB.out.size)
        have hrem : ((fb.length : Int) - fs + 1 == 0) = false := beq_eq_false_iff_ne.2 (by omega)
        go_upto_region 8 with (fail)
        go_quiet (fail)
        have hval := left_some keep k ⟨fn, fb, fs⟩ hik hfs hfl
        dsimp only at hval
        rw [hval]
        have hle := (left_le keep k ⟨fn, fb, fs⟩ hfs).2
        obtain ⟨N, hN⟩ : ∃ N, Hid (leftOf keep k ⟨fn, fb, fs⟩ = N) := ⟨_, rfl⟩
        rw [hN.out] at hle ⊢
        dsimp only at hle
        clear hval hrem hkc2 hkc dkk x0 x1 x2
        have HBb : Hid (Below w.heap.size w ((wr.alloc (.cells #[.string ⟨fn.toArray⟩, .string ⟨fb.toArray⟩, .int .i64 fs] 70)).drewN nq)) := below_dN (below_al HB.out _) nq
        have HOb := Lib.hid (Own.own_below HO.out (below_dN (below_al (Below.refl wr.heap.size wr) (.cells #[.string ⟨fn.toArray⟩, .string ⟨fb.toArray⟩, .int .i64 fs] 70)) nq))
        have b0 : ((wr.alloc (.cells #[.string ⟨fn.toArray⟩, .string ⟨fb.toArray⟩, .int .i64 fs] 70)).drewN nq).cell? ⟨wr.heap.size, 0, none⟩ = some (.string ⟨fn.toArray⟩) := box_at wr _ _ 0 rfl
        have b1 : ((wr.alloc (.cells #[.string ⟨fn.toArray⟩, .string ⟨fb.toArray⟩, .int .i64 fs] 70)).drewN nq).cell? ⟨wr.heap.size, 1, none⟩ = some (.string ⟨fb.toArray⟩) := box_at wr _ _ 1 rfl
        have HBX : Hid (wr.heap.size < ((wr.alloc (.cells #[.string ⟨fn.toArray⟩, .string ⟨fb.toArray⟩, .int .i64 fs] 70)).drewN nq).heap.size) := by
          have e : ((wr.alloc (.cells #[.string ⟨fn.toArray⟩, .string ⟨fb.toArray⟩, .int .i64 fs] 70)).drewN nq).heap.size = wr.heap.size + 1 := World.size_alloc _ _
          show wr.heap.size < ((wr.alloc (.cells #[.string ⟨fn.toArray⟩, .string ⟨fb.toArray⟩, .int .i64 fs] 70)).drewN nq).heap.size
          omega
        generalize ((wr.alloc (.cells #[.string ⟨fn.toArray⟩, .string ⟨fb.toArray⟩, .int .i64 fs] 70)).drewN nq) = Wb at *
        by_cases hN0 : N = 0
        · have z0 : decide ((0 : Int) < (N : Int)) = false := decide_eq_false (by omega)
          have eT : crashF keep 0 (d.files.take (k + 1)) = crashF keep 0 (d.files.take k) := by rw [HT.out, hN.out, if_pos hN0, List.append_nil]
          rw [← eT] at HOb
          go_wp2
          go_roundw
          case rel => exact ⟨k + 1, by go_num, by omega, HOb.out, HBb.out⟩
          case measure => simp [intOf]; omega
        · have z0 : decide ((0 : Int) < (N : Int)) = true := decide_eq_true (by omega)
          have eT : crashF keep 0 (d.files.take (k + 1)) = crashF keep 0 (d.files.take k) ++ [⟨fn, fb.take N, N⟩] := by rw [HT.out, hN.out, if_neg hN0]
          have HET := Lib.hid eT
          clear eT
          have hN1 : (N : Int) ≤ (fb.length : Int) := by omega
          have hN0' : (0 : Int) ≤ (N : Int) := by omega
          have hNp : (0 : Int) < (N : Int) := by omega
          have qx : (ByteArray.mk fb.toArray).extract 0 N = ⟨(fb.take N).toArray⟩ := by
            apply ByteArray.ext
            simp [ByteArray.extract, ByteArray.copySlice]
          go_upto_region 10 with (fail)
          have hbx : wr.heap.size < Wb.heap.size := HBX.out
          have hHeld : Wb.drew.cell? ⟨wr.heap.size, 0, none⟩ = some (.string ⟨fn.toArray⟩) ∧ Wb.drew.cell? ⟨wr.heap.size, 1, none⟩ = some (.string ⟨fb.toArray⟩) := ⟨b0, b1⟩
          have HBc : Hid (Below w.heap.size w Wb.drew) := HBb.out.drew
          have HOc := Lib.hid (Own.own_below HOb.out (Below.refl Wb.heap.size Wb).drew)
          have hbx2 : wr.heap.size < Wb.drew.heap.size := hbx
          refine Ord.wp_region_U (fun W' => W'.cell? ⟨wr.heap.size, 0, none⟩ = some (.string ⟨fn.toArray⟩) ∧ W'.cell? ⟨wr.heap.size, 1, none⟩ = some (.string ⟨fb.toArray⟩)) [10, 11] (by kernel_rfl) ?_
          clear b0 b1 HBb HOb hbx
          generalize Wb.drew = Wc at *
          refine take_at (i := 0) (v := ?_) 48 rfl rfl (by kernel_rfl) (by kernel_rfl) (by kernel_rfl) (by kernel_rfl) (by kernel_rfl) (by kernel_rfl) (by kernel_rfl) (fun _ _ _ h => h) (Or.inl ⟨by kernel_rfl, ?_⟩) hHeld ?_
          rotate_left
          · intro w hSw; (try dsimp only at hSw); (try obtain ⟨f0, f1⟩ := hSw); go_simp; (try with_reducible rfl)
          try simp only [Act.put, List.setIfInBounds_toArray, List.set_cons_zero, List.set_cons_succ]
          refine take_at (i := 1) (v := ?_) 49 rfl rfl (by kernel_rfl) (by kernel_rfl) (by kernel_rfl) (by kernel_rfl) (by kernel_rfl) (by kernel_rfl) (by kernel_rfl) (fun _ _ _ h => h) (Or.inl ⟨by kernel_rfl, ?_⟩) hHeld ?_
          rotate_left
          · intro w hSw; (try dsimp only at hSw); (try obtain ⟨f0, f1⟩ := hSw); go_simp; (try with_reducible rfl)
          try simp only [Act.put, List.setIfInBounds_toArray, List.set_cons_zero, List.set_cons_succ]
          refine take_at (i := 2) (v := ?_) 50 rfl rfl (by kernel_rfl) (by kernel_rfl) (by kernel_rfl) (by kernel_rfl) (by kernel_rfl) (by kernel_rfl) (by kernel_rfl) (fun _ _ _ h => h) (Or.inl ⟨by kernel_rfl, ?_⟩) hHeld ?_
          rotate_left
          · intro w hSw; (try dsimp only at hSw); (try obtain ⟨f0, f1⟩ := hSw); go_simp; (try with_reducible rfl)
          try simp only [Act.put, List.setIfInBounds_toArray, List.set_cons_zero, List.set_cons_succ]
          refine take_at (i := 3) (v := ?_) 51 rfl rfl (by kernel_rfl) (by kernel_rfl) (by kernel_rfl) (by kernel_rfl) (by kernel_rfl) (by kernel_rfl) (by kernel_rfl) (fun _ _ _ h => h) (Or.inl ⟨by kernel_rfl, ?_⟩) hHeld ?_
          rotate_left
          · intro w hSw; (try dsimp only at hSw); (try obtain ⟨f0, f1⟩ := hSw); go_simp; (try with_reducible rfl)
          try simp only [Act.put, List.setIfInBounds_toArray, List.set_cons_zero, List.set_cons_succ]
          refine take_at (i := 4) (v := ?_) 52 rfl rfl (by kernel_rfl) (by kernel_rfl) (by kernel_rfl) (by kernel_rfl) (by kernel_rfl) (by kernel_rfl) (by kernel_rfl) (fun _ _ _ h => h) (Or.inl ⟨by kernel_rfl, ?_⟩) hHeld ?_
          rotate_left
          · intro w hSw; (try dsimp only at hSw); (try obtain ⟨f0, f1⟩ := hSw); go_simp; (try with_reducible rfl)
          try simp only [Act.put, List.setIfInBounds_toArray, List.set_cons_zero, List.set_cons_succ]
          refine take_at (i := 5) (v := ?_) 53 rfl rfl (by kernel_rfl) (by kernel_rfl) (by kernel_rfl) (by kernel_rfl) (by kernel_rfl) (by kernel_rfl) (by kernel_rfl) (fun _ _ _ h => h) (Or.inl ⟨by kernel_rfl, ?_⟩) hHeld ?_
          rotate_left
          · intro w hSw; (try dsimp only at hSw); (try obtain ⟨f0, f1⟩ := hSw); go_simp; (try with_reducible rfl)
          try simp only [Act.put, List.setIfInBounds_toArray, List.set_cons_zero, List.set_cons_succ]
          refine take_at (i := 6) (v := ?_) 54 rfl rfl (by kernel_rfl) (by kernel_rfl) (by kernel_rfl) (by kernel_rfl) (by kernel_rfl) (by kernel_rfl) (by kernel_rfl) (fun _ _ _ h => h) (Or.inl ⟨by kernel_rfl, ?_⟩) hHeld ?_
          rotate_left
          · intro w hSw; (try dsimp only at hSw); (try obtain ⟨f0, f1⟩ := hSw); go_simp; (try with_reducible rfl)
          try simp only [Act.put, List.setIfInBounds_toArray, List.set_cons_zero, List.set_cons_succ]
          refine take_at (i := 7) (v := ?_) 55 rfl rfl (by kernel_rfl) (by kernel_rfl) (by kernel_rfl) (by kernel_rfl) (by kernel_rfl) (by kernel_rfl) (by kernel_rfl) (fun _ _ _ h => h) (Or.inl ⟨by kernel_rfl, ?_⟩) hHeld ?_
          rotate_left
          · intro w hSw; (try dsimp only at hSw); (try obtain ⟨f0, f1⟩ := hSw); go_simp; (try with_reducible rfl)
          try simp only [Act.put, List.setIfInBounds_toArray, List.set_cons_zero, List.set_cons_succ]
          refine take_at (i := 8) (v := ?_) 56 rfl rfl (by kernel_rfl) (by kernel_rfl) (by kernel_rfl) (by kernel_rfl) (by kernel_rfl) (by kernel_rfl) (by kernel_rfl) (fun _ _ _ h => h) (Or.inl ⟨by kernel_rfl, ?_⟩) hHeld ?_
          rotate_left
          · intro w hSw; (try dsimp only at hSw); (try obtain ⟨f0, f1⟩ := hSw); go_simp; (try with_reducible rfl)
          try simp only [Act.put, List.setIfInBounds_toArray, List.set_cons_zero, List.set_cons_succ]
          refine Ord.wpAnyU_one (i := 9) (by kernel_rfl) rfl (fun K hK => ?_)
          go_simp
          have hH2 : (Wc.alloc (.cells #[.string ⟨fn.toArray⟩, .string ⟨(fb.take N).toArray⟩, .int .i64 N] 70)).cell? ⟨wr.heap.size, 0, none⟩ = some (.string ⟨fn.toArray⟩) ∧ (Wc.alloc (.cells #[.string ⟨fn.toArray⟩, .string ⟨(fb.take N).toArray⟩, .int .i64 N] 70)).cell? ⟨wr.heap.size, 1, none⟩ = some (.string ⟨fb.toArray⟩) := ⟨((below_al (Below.refl Wc.heap.size Wc) _).cell (p := ⟨wr.heap.size, 0, none⟩) hbx2).trans hHeld.1, ((below_al (Below.refl Wc.heap.size Wc) _).cell (p := ⟨wr.heap.size, 1, none⟩) hbx2).trans hHeld.2⟩
          refine hK.out _ _ (fun _ => hH2) ?_
          clear hK K hHeld
          try simp only [Act.put, List.setIfInBounds_toArray, List.set_cons_zero, List.set_cons_succ]
          refine Ord.wpAnyU_one (i := 10) (by kernel_rfl) rfl (fun K hK => ?_)
          rw [if_pos (by rfl)]
          refine one_file (.tmp 48) (.tmp 57) 48 rfl w.heap.size 70 i0 _ 40 Try.underlying48 hi0 hz0 hz1 hz2 rfl _ _ _ rfl _ _ ⟨fn, fb.take N, N⟩ rfl (HOc.out.alloc _) (trip_new _ _ _ _ _).1 (trip_new _ _ _ _ _).2.1 (trip_new _ _ _ _ _).2.2 ?h1 ?h2 ?h3 ?_
          case h1 => have := HLn.out; unfold maxLen; omega
          case h2 => have := HLn.out; omega
          case h3 => have := HBc.out.size; simp; omega
          intro v4 w4 hown hgrow
          have HB4 := Lib.hid ((below_al HBc.out _).grown hgrow (below_al HBc.out _).size (Own.own_block HOc.out (Nat.le_refl _)))
          have HO4 := Lib.hid hown
          clear hown hgrow hH2
          refine hK.out _ _ (fun h => by cases h) ?_
          clear hK K
          try simp only [Act.put, List.setIfInBounds_toArray, List.set_cons_zero, List.set_cons_succ]
          refine Ord.wpAnyU_one (i := 11) (by kernel_rfl) rfl (fun K hK => ?_)
          go_simp
          refine hK.out _ _ (fun h => by cases h) ?_
          clear hK K
          try simp only [Act.put, List.setIfInBounds_toArray, List.set_cons_zero, List.set_cons_succ]
          refine Ord.wpAnyU_done (by kernel_rfl) ?_ _
          go_wp2
          go_roundw
          case rel => exact ⟨k + 1, by go_num, by omega, by rw [HET.out, List.length_append]; exact HO4.out, HB4.out⟩
          case measure => simp [intOf]; omega
      · have dkk : decide ((k : Int) < (keep.length : Int)) = false := decide_eq_false (by omega)
        have hle : fs ≤ fb.length := hfs
        have hN : Hid (leftOf keep k ⟨fn, fb, fs⟩ = fs) := left_none keep k _ hik
        by_cases hN0 : fs = 0
        · have z0 : decide ((0 : Int) < (fs : Int)) = false := decide_eq_false (by omega)
          have eT : crashF keep 0 (d.files.take (k + 1)) = crashF keep 0 (d.files.take k) := by rw [HT.out, hN.out, if_pos hN0, List.append_nil]
          have HO2 := HO
          rw [← eT] at HO2
          go_wp2
          go_roundw
          case rel => exact ⟨k + 1, by go_num, by omega, HO2.out.alloc _, below_al HB.out _⟩
          case measure => simp [intOf]; omega
        · have z0 : decide ((0 : Int) < (fs : Int)) = true := decide_eq_true (by omega)
          have hfp : (0 : Int) < (fs : Int) := by omega
          go_upto_region 10 with (fail)
          clear x0 x1 x2
          have HBb : Hid (Below w.heap.size w (wr.alloc (.cells #[.string ⟨fn.toArray⟩, .string ⟨fb.toArray⟩, .int .i64 fs] 70))) := below_al HB.out _
          have HOb := Lib.hid (Own.own_below HO.out (below_al (Below.refl wr.heap.size wr) (.cells #[.string ⟨fn.toArray⟩, .string ⟨fb.toArray⟩, .int .i64 fs] 70)))
          have b0 : (wr.alloc (.cells #[.string ⟨fn.toArray⟩, .string ⟨fb.toArray⟩, .int .i64 fs] 70)).cell? ⟨wr.heap.size, 0, none⟩ = some (.string ⟨fn.toArray⟩) := box_at wr _ _ 0 rfl
          have b1 : (wr.alloc (.cells #[.string ⟨fn.toArray⟩, .string ⟨fb.toArray⟩, .int .i64 fs] 70)).cell? ⟨wr.heap.size, 1, none⟩ = some (.string ⟨fb.toArray⟩) := box_at wr _ _ 1 rfl
          have HBX : Hid (wr.heap.size < (wr.alloc (.cells #[.string ⟨fn.toArray⟩, .string ⟨fb.toArray⟩, .int .i64 fs] 70)).heap.size) := by
            have e : (wr.alloc (.cells #[.string ⟨fn.toArray⟩, .string ⟨fb.toArray⟩, .int .i64 fs] 70)).heap.size = wr.heap.size + 1 := World.size_alloc _ _
            show wr.heap.size < (wr.alloc (.cells #[.string ⟨fn.toArray⟩, .string ⟨fb.toArray⟩, .int .i64 fs] 70)).heap.size
            omega
          generalize (wr.alloc (.cells #[.string ⟨fn.toArray⟩, .string ⟨fb.toArray⟩, .int .i64 fs] 70)) = Wb at *
          have eT : crashF keep 0 (d.files.take (k + 1)) = crashF keep 0 (d.files.take k) ++ [⟨fn, fb.take fs, fs⟩] := by rw [HT.out, hN.out, if_neg hN0]
          have HET := Lib.hid eT
          clear eT
          have hN1 : (fs : Int) ≤ (fb.length : Int) := by omega
          have hN0' : (0 : Int) ≤ (fs : Int) := by omega
          have qx : (ByteArray.mk fb.toArray).extract 0 fs = ⟨(fb.take fs).toArray⟩ := by
              apply ByteArray.ext
              simp [ByteArray.extract, ByteArray.copySlice]
          have hbx : wr.heap.size < Wb.heap.size := HBX.out
          have hHeld : Wb.drew.cell? ⟨wr.heap.size, 0, none⟩ = some (.string ⟨fn.toArray⟩) ∧ Wb.drew.cell? ⟨wr.heap.size, 1, none⟩ = some (.string ⟨fb.toArray⟩) := ⟨b0, b1⟩
          have HBc : Hid (Below w.heap.size w Wb.drew) := HBb.out.drew
          have HOc := Lib.hid (Own.own_below HOb.out (Below.refl Wb.heap.size Wb).drew)
          have hbx2 : wr.heap.size < Wb.drew.heap.size := hbx
          refine Ord.wp_region_U (fun W' => W'.cell? ⟨wr.heap.size, 0, none⟩ = some (.string ⟨fn.toArray⟩) ∧ W'.cell? ⟨wr.heap.size, 1, none⟩ = some (.string ⟨fb.toArray⟩)) [10, 11] (by kernel_rfl) ?_
          clear b0 b1 HBb HOb hbx
          generalize Wb.drew = Wc at *
          refine take_at (i := 0) (v := ?_) 48 rfl rfl (by kernel_rfl) (by kernel_rfl) (by kernel_rfl) (by kernel_rfl) (by kernel_rfl) (by kernel_rfl) (by kernel_rfl) (fun _ _ _ h => h) (Or.inl ⟨by kernel_rfl, ?_⟩) hHeld ?_
          rotate_left
          · intro w hSw; (try dsimp only at hSw); (try obtain ⟨f0, f1⟩ := hSw); go_simp; (try with_reducible rfl)
          try simp only [Act.put, List.setIfInBounds_toArray, List.set_cons_zero, List.set_cons_succ]
          refine take_at (i := 1) (v := ?_) 49 rfl rfl (by kernel_rfl) (by kernel_rfl) (by kernel_rfl) (by kernel_rfl) (by kernel_rfl) (by kernel_rfl) (by kernel_rfl) (fun _ _ _ h => h) (Or.inl ⟨by kernel_rfl, ?_⟩) hHeld ?_
          rotate_left
          · intro w hSw; (try dsimp only at hSw); (try obtain ⟨f0, f1⟩ := hSw); go_simp; (try with_reducible rfl)
          try simp only [Act.put, List.setIfInBounds_toArray, List.set_cons_zero, List.set_cons_succ]
          refine take_at (i := 2) (v := ?_) 50 rfl rfl (by kernel_rfl) (by kernel_rfl) (by kernel_rfl) (by kernel_rfl) (by kernel_rfl) (by kernel_rfl) (by kernel_rfl) (fun _ _ _ h => h) (Or.inl ⟨by kernel_rfl, ?_⟩) hHeld ?_
          rotate_left
          · intro w hSw; (try dsimp only at hSw); (try obtain ⟨f0, f1⟩ := hSw); go_simp; (try with_reducible rfl)
          try simp only [Act.put, List.setIfInBounds_toArray, List.set_cons_zero, List.set_cons_succ]
          refine take_at (i := 3) (v := ?_) 51 rfl rfl (by kernel_rfl) (by kernel_rfl) (by kernel_rfl) (by kernel_rfl) (by kernel_rfl) (by kernel_rfl) (by kernel_rfl) (fun _ _ _ h => h) (Or.inl ⟨by kernel_rfl, ?_⟩) hHeld ?_
          rotate_left
          · intro w hSw; (try dsimp only at hSw); (try obtain ⟨f0, f1⟩ := hSw); go_simp; (try with_reducible rfl)
          try simp only [Act.put, List.setIfInBounds_toArray, List.set_cons_zero, List.set_cons_succ]
          refine take_at (i := 4) (v := ?_) 52 rfl rfl (by kernel_rfl) (by kernel_rfl) (by kernel_rfl) (by kernel_rfl) (by kernel_rfl) (by kernel_rfl) (by kernel_rfl) (fun _ _ _ h => h) (Or.inl ⟨by kernel_rfl, ?_⟩) hHeld ?_
          rotate_left
          · intro w hSw; (try dsimp only at hSw); (try obtain ⟨f0, f1⟩ := hSw); go_simp; (try with_reducible rfl)
          try simp only [Act.put, List.setIfInBounds_toArray, List.set_cons_zero, List.set_cons_succ]
          refine take_at (i := 5) (v := ?_) 53 rfl rfl (by kernel_rfl) (by kernel_rfl) (by kernel_rfl) (by kernel_rfl) (by kernel_rfl) (by kernel_rfl) (by kernel_rfl) (fun _ _ _ h => h) (Or.inl ⟨by kernel_rfl, ?_⟩) hHeld ?_
          rotate_left
          · intro w hSw; (try dsimp only at hSw); (try obtain ⟨f0, f1⟩ := hSw); go_simp; (try with_reducible rfl)
          try simp only [Act.put, List.setIfInBounds_toArray, List.set_cons_zero, List.set_cons_succ]
          refine take_at (i := 6) (v := ?_) 54 rfl rfl (by kernel_rfl) (by kernel_rfl) (by kernel_rfl) (by kernel_rfl) (by kernel_rfl) (by kernel_rfl) (by kernel_rfl) (fun _ _ _ h => h) (Or.inl ⟨by kernel_rfl, ?_⟩) hHeld ?_
          rotate_left
          · intro w hSw; (try dsimp only at hSw); (try obtain ⟨f0, f1⟩ := hSw); go_simp; (try with_reducible rfl)
          try simp only [Act.put, List.setIfInBounds_toArray, List.set_cons_zero, List.set_cons_succ]
          refine take_at (i := 7) (v := ?_) 55 rfl rfl (by kernel_rfl) (by kernel_rfl) (by kernel_rfl) (by kernel_rfl) (by kernel_rfl) (by kernel_rfl) (by kernel_rfl) (fun _ _ _ h => h) (Or.inl ⟨by kernel_rfl, ?_⟩) hHeld ?_
          rotate_left
          · intro w hSw; (try dsimp only at hSw); (try obtain ⟨f0, f1⟩ := hSw); go_simp; (try with_reducible rfl)
          try simp only [Act.put, List.setIfInBounds_toArray, List.set_cons_zero, List.set_cons_succ]
          refine take_at (i := 8) (v := ?_) 56 rfl rfl (by kernel_rfl) (by kernel_rfl) (by kernel_rfl) (by kernel_rfl) (by kernel_rfl) (by kernel_rfl) (by kernel_rfl) (fun _ _ _ h => h) (Or.inl ⟨by kernel_rfl, ?_⟩) hHeld ?_
          rotate_left
          · intro w hSw; (try dsimp only at hSw); (try obtain ⟨f0, f1⟩ := hSw); go_simp; (try with_reducible rfl)
          try simp only [Act.put, List.setIfInBounds_toArray, List.set_cons_zero, List.set_cons_succ]
          refine Ord.wpAnyU_one (i := 9) (by kernel_rfl) rfl (fun K hK => ?_)
          go_simp
          have hH2 : (Wc.alloc (.cells #[.string ⟨fn.toArray⟩, .string ⟨(fb.take fs).toArray⟩, .int .i64 fs] 70)).cell? ⟨wr.heap.size, 0, none⟩ = some (.string ⟨fn.toArray⟩) ∧ (Wc.alloc (.cells #[.string ⟨fn.toArray⟩, .string ⟨(fb.take fs).toArray⟩, .int .i64 fs] 70)).cell? ⟨wr.heap.size, 1, none⟩ = some (.string ⟨fb.toArray⟩) := ⟨((below_al (Below.refl Wc.heap.size Wc) _).cell (p := ⟨wr.heap.size, 0, none⟩) hbx2).trans hHeld.1, ((below_al (Below.refl Wc.heap.size Wc) _).cell (p := ⟨wr.heap.size, 1, none⟩) hbx2).trans hHeld.2⟩
          refine hK.out _ _ (fun _ => hH2) ?_
          clear hK K hHeld
          try simp only [Act.put, List.setIfInBounds_toArray, List.set_cons_zero, List.set_cons_succ]
          refine Ord.wpAnyU_one (i := 10) (by kernel_rfl) rfl (fun K hK => ?_)
          rw [if_pos (by rfl)]
          refine one_file (.tmp 48) (.tmp 57) 48 rfl w.heap.size 70 i0 _ 40 Try.underlying48 hi0 hz0 hz1 hz2 rfl _ _ _ rfl _ _ ⟨fn, fb.take fs, fs⟩ rfl (HOc.out.alloc _) (trip_new _ _ _ _ _).1 (trip_new _ _ _ _ _).2.1 (trip_new _ _ _ _ _).2.2 ?h1 ?h2 ?h3 ?_
          case h1 => have := HLn.out; unfold maxLen; omega
          case h2 => have := HLn.out; omega
          case h3 => have := HBc.out.size; simp; omega
          intro v4 w4 hown hgrow
          have HB4 := Lib.hid ((below_al HBc.out _).grown hgrow (below_al HBc.out _).size (Own.own_block HOc.out (Nat.le_refl _)))
          have HO4 := Lib.hid hown
          clear hown hgrow hH2
          refine hK.out _ _ (fun h => by cases h) ?_
          clear hK K
          try simp only [Act.put, List.setIfInBounds_toArray, List.set_cons_zero, List.set_cons_succ]
          refine Ord.wpAnyU_one (i := 11) (by kernel_rfl) rfl (fun K hK => ?_)
          go_simp
          refine hK.out _ _ (fun h => by cases h) ?_
          clear hK K
          try simp only [Act.put, List.setIfInBounds_toArray, List.set_cons_zero, List.set_cons_succ]
          refine Ord.wpAnyU_done (by kernel_rfl) ?_ _
          go_wp2
          go_roundw
          case rel => exact ⟨k + 1, by go_num, by omega, by rw [HET.out, List.length_append]; exact HO4.out, HB4.out⟩
          case measure => simp [intOf]; omega
    · have dk : decide ((k : Int) < (L : Int)) = false := decide_eq_false (by omega)
      have ekL : d.files.take k = d.files := List.take_of_length_le (by have := hL.out; omega)
      rw [ekL] at HO
      have HPr := Lib.hid (HP.out.below HB.out)
      obtain ⟨q0, q1, q2, q3, q4, q5⟩ := HPr.out.cells
      have f0 := World.rowIs.frozen HPr.out.row 0
      have f3 := World.rowIs.frozen HPr.out.row 3
      have f5 := World.rowIs.frozen HPr.out.row 5
      have HNE := Lib.hid (own_ne HO.out hgl)
      obtain ⟨oa, oc, hoe⟩ := own_slice HO.out
      subst hoe
      go_wp2
      go_ret
      have h1 := RD.setFiles HPr.out.row HPr.out.lo (HO.out.mono HP.out.hB) HNE.out
      exact ⟨rfl, ⟨_, (h1.setDead false).setLast 0⟩, (HB.out.mono HP.out.hB).trans ((below_set HPr.out.lo _ _).trans ((below_set HPr.out.lo _ _).trans (below_set HPr.out.lo _ _)))⟩
end Dsk
end Go.Proofs.Ytnbmjbelmcibgaa
