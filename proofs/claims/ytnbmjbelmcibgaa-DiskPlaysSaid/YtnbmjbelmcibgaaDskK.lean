/- A crash: the walk. -/
import Derived.Test.YtnbmjbelmcibgaaDskC
import Derived.Test.YtnbmjbelmcibgaaInI
import Derived.Test.YtnbmjbelmcibgaaDskB
import Derived.Deep.DeepMust
import Derived.Deep.Cut
import Derived.BigQuiet
set_option linter.unusedSimpArgs false
set_option linter.unusedVariables false
namespace Go.Proofs.Ytnbmjbelmcibgaa
open Go.RowKit Go.Great Go.Maps
namespace Dsk
theorem Bx.toBelow {g m B : Nat} {a b : World} (h : Bx g m a b) (hB : B ≤ a.heap.size) (hg : B ≤ g) (hm : B ≤ m) : Below B a b :=
  ⟨h.os, h.tape, h.output, h.size, fun k hk => h.block k (Nat.lt_of_lt_of_le hk hB) (by omega) (by omega)⟩
theorem crash_len (keep : List Int) : ∀ (l : List FileIn) (i : Nat), (crashF keep i l).length ≤ l.length
  | [], i => Nat.le_refl _
  | f :: l, i => by
    have ih := crash_len keep l (i + 1)
    rw [crash_cons]
    split
    · rw [List.length_cons]; omega
    · rw [List.length_cons, List.length_cons]; omega
theorem mid_len (keep : List Int) (l : List FileIn) (i : Nat) : (midC keep l i).length ≤ l.length := by
  unfold midC
  have := crash_len keep (l.take i) 0
  rw [List.length_append, List.length_drop]
  rw [List.length_take] at this
  omega
theorem PD.upto {w : World} {g m n N : Nat} {d : DkIn} (h : PD w g m n d) (hN : d.files.length ≤ N) : PD w g m N d := ⟨h.row, h.tight.own.mono hN, h.ne⟩
theorem left_none (keep : List Int) (i : Nat) (f : FileIn) (h : ¬ i < keep.length) : leftOf keep i f = f.sure := by
  unfold leftOf
  rw [List.getElem?_eq_none (by omega)]
  rfl
theorem left_some (keep : List Int) (i : Nat) (f : FileIn) (h : i < keep.length) (hs : f.sure ≤ f.by'.length) (hl : f.by'.length ≤ 1000000000) : wrap64 ((f.sure : Int) + (bits BinOp.and IntKind.i64 keep[i] 4611686018427387903).tmod ((f.by'.length : Int) - (f.sure : Int) + 1)) = (leftOf keep i f : Nat) := by
  rw [mask_kept]
  unfold leftOf keepOf
  rw [List.getElem?_eq_getElem h]
  dsimp only
  have h0 := Int.emod_nonneg keep[i] (b := 4611686018427387904) (by decide)
  generalize keep[i] % 4611686018427387904 = k at *
  obtain ⟨K, rfl⟩ : ∃ K : Nat, k = K := ⟨k.toNat, by omega⟩
  have e : (f.by'.length : Int) - (f.sure : Int) + 1 = ((f.by'.length - f.sure + 1 : Nat) : Int) := by omega
  rw [e, ← Int.ofNat_tmod, Int.toNat_natCast]
  have := Nat.mod_lt K (y := f.by'.length - f.sure + 1) (by omega)
  obtain ⟨q, hq⟩ : ∃ q, K % (f.by'.length - f.sure + 1) = q := ⟨_, rfl⟩
  rw [hq] at this ⊢
  unfold wrap64
  omega
/-- The names that stand in a row. -/
def Nms (w : World) (B : Nat) (v : Value) (l : List FileIn) (n : Nat) : Prop := ∃ a cap, v = .slice a n cap ∧ ∀ i, (hi : i < l.length) → ∃ gv, a = some ⟨gv, 0, none⟩ ∧ B ≤ gv ∧ gv < w.heap.size ∧ w.cell? ⟨gv, i, none⟩ = some (.string ⟨l[i].nm.toArray⟩)
theorem nms_of {w : World} {B : Nat} {v : Value} {l : List FileIn} {n : Nat} (hn : l.length = n) (h : w.ownsRow B 9 1 v (nmsOf l).length (rowOf (nmsOf l))) : Nms w B v l n := by
  subst hn
  have hl : (nmsOf l).length = l.length := by simp [nmsOf]
  rw [hl] at h
  have h' := h
  obtain ⟨h0, h1⟩ := h
  rcases h1 with ⟨rfl, hz⟩ | ⟨g, cap, cur, rfl, hg, hb, hn, hm, hs, ht⟩
  · exact ⟨none, 0, by rw [hz], fun i hi => absurd hi (by omega)⟩
  · refine ⟨some ⟨g, 0, none⟩, cap, rfl, fun i hi => ⟨g, rfl, hg, (h'.lt g rfl).2, ?_⟩⟩
    have := h'.cells rfl i (.string ⟨l[i].nm.toArray⟩) (by simp [rowOf, nmsOf, hi, encStr])
    rwa [show ((⟨g, 0, none⟩ : Addr).add i) = ⟨g, i, none⟩ from by unfold Addr.add; split <;> simp_all] at this

set_option maxRecDepth 100000 in
set_option maxHeartbeats 4000000 in
theorem crash_any (W0 w : World) (g m n : Nat) (d : DkIn) (h : PD w g m n d) (hd : Dok d) (hn : d.files.length < 100000) (hl : ∀ f ∈ d.files, f.by'.length ≤ 1000000000) (kv : Value) (keep : List Int) (hk : In.IsInts .i64 W0 kv keep) (hw : Below W0.heap.size W0 w) (hg0 : W0.heap.size ≤ g) (hm0 : W0.heap.size ≤ m) : Calls Try.prog 13 #[.pointer (some ⟨g, 0, none⟩), kv] w fun e w' => e = .returned (.int .i64 0) ∧ Hid (PD w' g m d.files.length (crashV d keep)) ∧ Hid (Bx g m w w') := by
  obtain ⟨ka, kcap, rfl, hkl, hka, hkw, -, -⟩ := hk
  have HP := Lib.hid h.tight
  have HK := Lib.hid hka
  have HW := Lib.hid hw
  have CG : Hid (Calls Try.prog 30 #[.pointer (some ⟨g, 0, none⟩)] w fun e w' => e = .returned (.bool true) ∧ w = w') := given_any w g m n d h
  have f3 := World.rowIs.frozen h.row 3
  have f5 := World.rowIs.frozen h.row 5
  obtain ⟨c0, c1, c2, c3, c4, c5⟩ := h.cells
  have hd1 : Dok { d with dead := false, last := 0 } := ⟨hd.fok, hd.room, hd.ops, ⟨Int.le_refl 0, by show (0 : Int) ≤ _; omega⟩⟩
  have HP1 : Hid (PD ((w.setCell ⟨g, 5, none⟩ (.bool false)).setCell ⟨g, 3, none⟩ (.int .i64 0)) g m d.files.length { d with dead := false, last := 0 }) := (HP.out.setDead false).setLast 0
  have CN : Hid (∀ W, PD W g m d.files.length { d with dead := false, last := 0 } → Calls Try.prog 24 #[.pointer (some ⟨g, 0, none⟩)] W fun e w' => ∃ v, e = .returned v ∧ Hid (w'.ownsRow W.heap.size 9 1 v (nmsOf d.files).length (rowOf (nmsOf d.files))) ∧ Hid (Below W.heap.size W w')) := fun W hW => names_any W g m d.files.length { d with dead := false, last := 0 } hW hd1 (by omega)
  have gset : ∀ (W : World) (i : Nat) (u : Value), W.grownBy (W.setCell ⟨g, i, none⟩ u) (some g) := fun W i u => ⟨rfl, rfl, rfl, by simp, fun j hj hne => Below.heap_setCell _ _ _ _ fun e => hne (by rw [e])⟩
  have HB1 : Hid (Bx g m w ((w.setCell ⟨g, 5, none⟩ (.bool false)).setCell ⟨g, 3, none⟩ (.int .i64 0))) := Bx.grown (grw_trans (gset _ _ _) (gset _ _ _)) fun k e => Or.inl (Option.some.inj e).symm
  obtain ⟨hgl, hml⟩ := h.lt
  clear h hka hw
  have HF := Lib.hid hd.fok
  have HL := Lib.hid hl
  clear hl
  obtain ⟨L, hL⟩ : ∃ L, Hid (d.files.length = L) := ⟨_, rfl⟩
  obtain ⟨D, hD⟩ : ∃ D, Hid (crashV d keep = D) := ⟨_, rfl⟩
  rw [hL.out] at HP1 CN hn ⊢
  rw [hD.out]
  go_enter Try.func13, Try.ntmps13
  go_wp2_with (first
    | (go_at_call 30; (with_reducible refine CG.out.mono ?_); rintro e w2 ⟨rfl, rfl⟩)
    | (go_at_call 24; (refine (CN.out _ HP1.out).mono ?_); rintro e w3 ⟨nv, rfl, HNR, HNB⟩; obtain ⟨na, ncap, rfl, HN⟩ := nms_of hL.out HNR.out; have HN := Lib.hid HN; clear HNR))
  obtain ⟨W1, hW1⟩ : ∃ W1, (w.setCell ⟨g, 5, none⟩ (.bool false)).setCell ⟨g, 3, none⟩ (.int .i64 0) = W1 := ⟨_, rfl⟩
  rw [hW1] at HNB HN HP1 HB1
  have hs1 : w.heap.size = W1.heap.size := by rw [← hW1]; simp
  clear hW1 c0 c1 c2 c3 c4 c5 f3 f5 CG CN gset hd1
  have HP3 := Lib.hid (HP1.out.below HNB.out)
  have HB3 : Hid (Bx g m w w3) := HB1.out.trans (Bx.below HNB.out)
  have hs3 : W1.heap.size ≤ w3.heap.size := HNB.out.size
  clear HB1 HNB HP1
  go_loopw [21] (fun v21 wr => ∃ i : Nat, i ≤ L ∧ v21 = .int .i64 (i : Int) ∧ Hid (PD wr g m L { d with dead := false, last := 0, files := midC keep d.files i }) ∧ Hid (Bx g m w wr) ∧ Hid (Bx g m w3 wr)) (fun v _ => L - (intOf v).toNat)
  case atStart => exact ⟨0, Nat.zero_le _, rfl, by rw [mid_zero]; exact HP3.out, HB3.out, Bx.refl _ _ _⟩
  case round =>
    obtain ⟨i, hiL, rfl, HPr, HBr, HBr3⟩ := hrel
    by_cases hi : i < L
    · have di : decide ((i : Int) < (L : Int)) = true := decide_eq_true (by omega)
      have hil : i < d.files.length := by rw [hL.out]; exact hi
      obtain ⟨gv, rfl, hgv1, hgv2, hgv3⟩ := HN.out i hil
      have hcn : wr.cell? ⟨gv, i, none⟩ = some (.string ⟨d.files[i].nm.toArray⟩) := by
        unfold World.cell? at hgv3 ⊢
        rw [HBr3.out.block gv hgv2 (by omega) (by omega)]
        exact hgv3
      have hgvl : gv < wr.heap.size := Nat.lt_of_lt_of_le hgv2 HBr3.out.size
      obtain ⟨c0, -⟩ := HPr.out.cells
      have hgr : g < wr.heap.size := HPr.out.lt.1
      have hsz : (ByteArray.mk d.files[i].by'.toArray).size = d.files[i].by'.length := by simp [ByteArray.size]
      have hPf : Hid (find d.files[i].nm (midC keep d.files i) = some d.files[i]) := mid_find keep HF.out i hil
      have hfl : d.files[i].by'.length ≤ 1000000000 := HL.out _ (List.getElem_mem hil)
      have hfs : d.files[i].sure ≤ d.files[i].by'.length := HF.out.sure _ (List.getElem_mem hil)
      have hfn : d.files[i].nm.length ≤ 12 := by
        have := HF.out.name _ (List.getElem_mem hil)
        unfold isName at this
        simp at this
        exact this.2
      have HG := Lib.hid (mid_gone keep HF.out i hil)
      have HE := Lib.hid (mid_kept keep HF.out i hil)
      clear HN
      clear hd
      generalize d.files[i] = f at *
      obtain ⟨fn, fb, fs⟩ := f
      dsimp only at *
      have hff : (find (ByteArray.mk fn.toArray).data.toList (midC keep d.files i)).getD ⟨(ByteArray.mk fn.toArray).data.toList, [], 0⟩ = ⟨fn, fb, fs⟩ := by
        show (find fn.toArray.toList _).getD _ = _
        rw [List.toList_toArray, hPf.out]
        rfl
      have hfn' : (ByteArray.mk fn.toArray).size ≤ 1000000000 := by
        show fn.toArray.size ≤ _
        rw [List.size_toArray]
        omega
      clear hPf hgv1 hgv2 hgv3
      by_cases hik : i < keep.length
      · have dk : decide ((i : Int) < (keep.length : Int)) = true := decide_eq_true (by omega)
        obtain ⟨kb, koff, rfl, hkb, hkc⟩ := HK.out i hik
        have hkc2 : wr.cell? ⟨kb, koff + i, none⟩ = some (.int .i64 (keep.getD i 0)) := by
          have hb := HW.out.trans (HBr.out.toBelow HW.out.size hg0 hm0)
          exact (hb.cell (p := ⟨kb, koff + i, none⟩) hkb).trans hkc
        have hkbr : kb < wr.heap.size := Nat.lt_of_lt_of_le hkb (Nat.le_trans HW.out.size HBr.out.size)
        have hrem : ((fb.length : Int) - fs + 1 == 0) = false := beq_eq_false_iff_ne.2 (by omega)
        go_upto_region 10 with (at_lookup; refine lookup_file rfl (.tmp 29) (.tmp 30) rfl m L _ rfl HPr.out.own ⟨fn.toArray⟩ rfl hfn' _ hff ?_)
        go_quiet (fail)
        have hval := left_some keep i ⟨fn, fb, fs⟩ hik hfs hfl
        dsimp only at hval
        rw [hval]
        have hle := (left_le keep i ⟨fn, fb, fs⟩ hfs).2
        obtain ⟨N, hN⟩ : ∃ N, Hid (leftOf keep i ⟨fn, fb, fs⟩ = N) := ⟨_, rfl⟩
        rw [hN.out] at hle ⊢
        dsimp only at hle
        clear hval hrem hkc2 hkc dk
        have HPb : Hid (PD ((wr.alloc (.cells #[.string ⟨fb.toArray⟩, .int .i64 fs] 63)).drewN nq) g m L { d with dead := false, last := 0, files := midC keep d.files i }) := HPr.out.below (below_dN (below_al (Below.refl _ _) _) nq)
        have HXb : Hid (Bx g m wr ((wr.alloc (.cells #[.string ⟨fb.toArray⟩, .int .i64 fs] 63)).drewN nq)) := Bx.below (below_dN (below_al (Below.refl _ _) _) nq)
        have cb : ((wr.alloc (.cells #[.string ⟨fb.toArray⟩, .int .i64 fs] 63)).drewN nq).cell? ⟨wr.heap.size, 0, none⟩ = some (.string ⟨fb.toArray⟩) := by
          show (wr.alloc (.cells #[.string ⟨fb.toArray⟩, .int .i64 fs] 63)).cell? _ = _
          rw [World.cell?_alloc_at _ _ _ _ (by simp)]; rfl
        obtain ⟨p0, -⟩ := HPb.out.cells
        obtain ⟨Wb, hWb⟩ : ∃ Wb, ((wr.alloc (.cells #[.string ⟨fb.toArray⟩, .int .i64 fs] 63)).drewN nq) = Wb := ⟨_, rfl⟩
        rw [hWb] at HPb HXb cb p0 ⊢
        have hbl : wr.heap.size < Wb.heap.size := by rw [← hWb]; simp
        by_cases hN0 : N = 0
        · subst hN0
          have z0 : (((0 : Nat) : Int) == 0) = true := rfl
          go_wp2_with (first
            | (at_delete; refine list_del rfl (.tmp 58) (.tmp 59) rfl rfl m L _ rfl HPb.out.own ⟨fn.toArray⟩ rfl hfn' ?_; intro w5 ho5 hg5; have HP5 : Hid (PD w5 g m L { d with dead := false, last := 0, files := midC keep d.files (i + 1) }) := (by rw [← HG.out hN.out]; exact PD.put HPb.out ho5 hg5); have HG5 := Lib.hid hg5; clear ho5 hg5))
          go_roundw
          case rel => exact ⟨i + 1, by omega, by go_num, HP5.out, HBr.out.trans (HXb.out.trans (Bx.grown HG5.out fun k e => Or.inr (Option.some.inj e).symm)), HBr3.out.trans (HXb.out.trans (Bx.grown HG5.out fun k e => Or.inr (Option.some.inj e).symm))⟩
          case measure => simp [intOf]; omega
        · have z0 : ((N : Int) == 0) = false := beq_eq_false_iff_ne.2 (by omega)
          have hN1 : (N : Int) ≤ (fb.length : Int) := by omega
          have hN0' : (0 : Int) ≤ (N : Int) := by omega
          have qx : (ByteArray.mk fb.toArray).extract 0 N = ⟨(fb.take N).toArray⟩ := by
            apply ByteArray.ext
            simp [ByteArray.extract, ByteArray.copySlice]
          go_upto_region 13 with (first | fail | fail)
          have hHeld : Wb.drew.cell? ⟨g, 0, none⟩ = some (.map (some m)) ∧ Wb.drew.cell? ⟨wr.heap.size, 0, none⟩ = some (.string ⟨fb.toArray⟩) := ⟨p0, cb⟩
          have HO3 : Hid (Wb.drew.ownsMap Try.prog 9 fileElem m L (datum (midC keep d.files i))) := HPb.out.own.drew
          clear cb p0
          refine Ord.wp_region_U (fun W' => W'.cell? ⟨g, 0, none⟩ = some (.map (some m)) ∧ W'.cell? ⟨wr.heap.size, 0, none⟩ = some (.string ⟨fb.toArray⟩)) [11] (by kernel_rfl) ?_
          refine take_at (i := 0) (v := ?_) 60 rfl rfl (by kernel_rfl) (by kernel_rfl) (by kernel_rfl) (by kernel_rfl) (by kernel_rfl) (by kernel_rfl) (by kernel_rfl) (fun _ _ _ h => h) (Or.inl ⟨by kernel_rfl, ?_⟩) hHeld ?_
          rotate_left
          · intro w hSw; (try dsimp only at hSw); (try obtain ⟨f0, f1⟩ := hSw); go_simp; (try with_reducible rfl)
          try simp only [Act.put, List.setIfInBounds_toArray, List.set_cons_zero, List.set_cons_succ]
          refine take_at (i := 1) (v := ?_) 61 rfl rfl (by kernel_rfl) (by kernel_rfl) (by kernel_rfl) (by kernel_rfl) (by kernel_rfl) (by kernel_rfl) (by kernel_rfl) (fun _ _ _ h => h) (Or.inl ⟨by kernel_rfl, ?_⟩) hHeld ?_
          rotate_left
          · intro w hSw; (try dsimp only at hSw); (try obtain ⟨f0, f1⟩ := hSw); go_simp; (try with_reducible rfl)
          try simp only [Act.put, List.setIfInBounds_toArray, List.set_cons_zero, List.set_cons_succ]
          refine take_at (i := 2) (v := ?_) 62 rfl rfl (by kernel_rfl) (by kernel_rfl) (by kernel_rfl) (by kernel_rfl) (by kernel_rfl) (by kernel_rfl) (by kernel_rfl) (fun _ _ _ h => h) (Or.inl ⟨by kernel_rfl, ?_⟩) hHeld ?_
          rotate_left
          · intro w hSw; (try dsimp only at hSw); (try obtain ⟨f0, f1⟩ := hSw); go_simp; (try with_reducible rfl)
          try simp only [Act.put, List.setIfInBounds_toArray, List.set_cons_zero, List.set_cons_succ]
          refine take_at (i := 3) (v := ?_) 63 rfl rfl (by kernel_rfl) (by kernel_rfl) (by kernel_rfl) (by kernel_rfl) (by kernel_rfl) (by kernel_rfl) (by kernel_rfl) (fun _ _ _ h => h) (Or.inl ⟨by kernel_rfl, ?_⟩) hHeld ?_
          rotate_left
          · intro w hSw; (try dsimp only at hSw); (try obtain ⟨f0, f1⟩ := hSw); go_simp; (try with_reducible rfl)
          try simp only [Act.put, List.setIfInBounds_toArray, List.set_cons_zero, List.set_cons_succ]
          refine take_at (i := 4) (v := ?_) 64 rfl rfl (by kernel_rfl) (by kernel_rfl) (by kernel_rfl) (by kernel_rfl) (by kernel_rfl) (by kernel_rfl) (by kernel_rfl) (fun _ _ _ h => h) (Or.inl ⟨by kernel_rfl, ?_⟩) hHeld ?_
          rotate_left
          · intro w hSw; (try dsimp only at hSw); (try obtain ⟨f0, f1⟩ := hSw); go_simp; (try with_reducible rfl)
          try simp only [Act.put, List.setIfInBounds_toArray, List.set_cons_zero, List.set_cons_succ]
          refine take_at (i := 5) (v := ?_) 65 rfl rfl (by kernel_rfl) (by kernel_rfl) (by kernel_rfl) (by kernel_rfl) (by kernel_rfl) (by kernel_rfl) (by kernel_rfl) (fun _ _ _ h => h) (Or.inl ⟨by kernel_rfl, ?_⟩) hHeld ?_
          rotate_left
          · intro w hSw; (try dsimp only at hSw); (try obtain ⟨f0, f1⟩ := hSw); go_simp; (try with_reducible rfl)
          try simp only [Act.put, List.setIfInBounds_toArray, List.set_cons_zero, List.set_cons_succ]
          refine take_at (i := 6) (v := ?_) 66 rfl rfl (by kernel_rfl) (by kernel_rfl) (by kernel_rfl) (by kernel_rfl) (by kernel_rfl) (by kernel_rfl) (by kernel_rfl) (fun _ _ _ h => h) (Or.inl ⟨by kernel_rfl, ?_⟩) hHeld ?_
          rotate_left
          · intro w hSw; (try dsimp only at hSw); (try obtain ⟨f0, f1⟩ := hSw); go_simp; (try with_reducible rfl)
          try simp only [Act.put, List.setIfInBounds_toArray, List.set_cons_zero, List.set_cons_succ]
          refine take_at (i := 7) (v := ?_) 67 rfl rfl (by kernel_rfl) (by kernel_rfl) (by kernel_rfl) (by kernel_rfl) (by kernel_rfl) (by kernel_rfl) (by kernel_rfl) (fun _ _ _ h => h) (Or.inl ⟨by kernel_rfl, ?_⟩) hHeld ?_
          rotate_left
          · intro w hSw; (try dsimp only at hSw); (try obtain ⟨f0, f1⟩ := hSw); go_simp; (try with_reducible rfl)
          try simp only [Act.put, List.setIfInBounds_toArray, List.set_cons_zero, List.set_cons_succ]
          refine take_at (i := 8) (v := ?_) 68 rfl rfl (by kernel_rfl) (by kernel_rfl) (by kernel_rfl) (by kernel_rfl) (by kernel_rfl) (by kernel_rfl) (by kernel_rfl) (fun _ _ _ h => h) (Or.inl ⟨by kernel_rfl, ?_⟩) hHeld ?_
          rotate_left
          · intro w hSw; (try dsimp only at hSw); (try obtain ⟨f0, f1⟩ := hSw); go_simp; (try with_reducible rfl)
          try simp only [Act.put, List.setIfInBounds_toArray, List.set_cons_zero, List.set_cons_succ]
          refine take_at (i := 9) (v := ?_) 69 rfl rfl (by kernel_rfl) (by kernel_rfl) (by kernel_rfl) (by kernel_rfl) (by kernel_rfl) (by kernel_rfl) (by kernel_rfl) (fun _ _ _ h => h) (Or.inl ⟨by kernel_rfl, ?_⟩) hHeld ?_
          rotate_left
          · intro w hSw; (try dsimp only at hSw); (try obtain ⟨f0, f1⟩ := hSw); go_simp; (try with_reducible rfl)
          try simp only [Act.put, List.setIfInBounds_toArray, List.set_cons_zero, List.set_cons_succ]
          refine take_at (i := 10) (v := ?_) 70 rfl rfl (by kernel_rfl) (by kernel_rfl) (by kernel_rfl) (by kernel_rfl) (by kernel_rfl) (by kernel_rfl) (by kernel_rfl) (fun _ _ _ h => h) (Or.inl ⟨by kernel_rfl, ?_⟩) hHeld ?_
          rotate_left
          · intro w hSw; (try dsimp only at hSw); (try obtain ⟨f0, f1⟩ := hSw); go_simp; (try with_reducible rfl)
          try simp only [Act.put, List.setIfInBounds_toArray, List.set_cons_zero, List.set_cons_succ]
          refine Ord.wpAnyU_one (i := 11) (by kernel_rfl) rfl (fun K hK => ?_)
          rw [if_pos (by rfl)]
          refine one_upd (.tmp 63) (.tmp 64) (.tmp 70) rfl rfl m L _ (by omega) rfl HO3.out ⟨fn.toArray⟩ rfl hfn' (fb.take N) N rfl ?_
          intro w5 ho5 hg5
          have HP5 : Hid (PD w5 g m L { d with dead := false, last := 0, files := midC keep d.files (i + 1) }) := by
            have hq := HE.out (by rw [hN.out]; exact hN0)
            rw [hN.out] at hq
            have ho6 := PD.put (w := Wb.drew) (w' := w5) (d := { d with dead := false, last := 0, files := midC keep d.files i }) ⟨World.rowIs.drew HPb.out.row, HO3.out, HPb.out.ne⟩ ho5 hg5
            rw [show (ByteArray.mk fn.toArray).data.toList = fn from List.toList_toArray, hq] at ho6
            exact ho6.upto (by have hq2 := mid_len keep d.files (i + 1); rw [hL.out] at hq2; exact hq2)
          have HG5 := Lib.hid hg5
          clear ho5 hg5
          refine hK.out _ _ (fun h => by cases h) ?_
          clear hK K
          try simp only [Act.put, List.setIfInBounds_toArray, List.set_cons_zero, List.set_cons_succ]
          refine Ord.wpAnyU_done (by kernel_rfl) ?_ _
          go_wp2
          go_roundw
          case rel =>
            have hx := HXb.out.trans (Bx.grown (a := Wb) ⟨HG5.out.os, HG5.out.tape, HG5.out.output, HG5.out.size, HG5.out.block⟩ fun k e => Or.inr (Option.some.inj e).symm)
            exact ⟨i + 1, by omega, by go_num, HP5.out, HBr.out.trans hx, HBr3.out.trans hx⟩
          case measure => simp [intOf]; omega
      · have dk : decide ((i : Int) < (keep.length : Int)) = false := decide_eq_false (by omega)
        have hle : fs ≤ fb.length := hfs
        have hN : Hid (leftOf keep i ⟨fn, fb, fs⟩ = fs) := left_none keep i _ hik
        obtain ⟨N, hNe⟩ : ∃ N, fs = N := ⟨_, rfl⟩
        subst hNe
        have HPb : Hid (PD (wr.alloc (.cells #[.string ⟨fb.toArray⟩, .int .i64 fs] 63)) g m L { d with dead := false, last := 0, files := midC keep d.files i }) := HPr.out.below (below_al (Below.refl _ _) _)
        have HXb : Hid (Bx g m wr (wr.alloc (.cells #[.string ⟨fb.toArray⟩, .int .i64 fs] 63))) := Bx.below (below_al (Below.refl _ _) _)
        have cb : (wr.alloc (.cells #[.string ⟨fb.toArray⟩, .int .i64 fs] 63)).cell? ⟨wr.heap.size, 0, none⟩ = some (.string ⟨fb.toArray⟩) := by
          show (wr.alloc (.cells #[.string ⟨fb.toArray⟩, .int .i64 fs] 63)).cell? _ = _
          rw [World.cell?_alloc_at _ _ _ _ (by simp)]; rfl
        obtain ⟨p0, -⟩ := HPb.out.cells
        have hbl : wr.heap.size < (wr.alloc (.cells #[.string ⟨fb.toArray⟩, .int .i64 fs] 63)).heap.size := by simp
        by_cases hN0 : fs = 0
        · subst hN0
          have z0 : (((0 : Nat) : Int) == 0) = true := rfl
          go_wp2_with (first
            | (at_lookup; refine lookup_file rfl (.tmp 29) (.tmp 30) rfl m L _ rfl HPr.out.own ⟨fn.toArray⟩ rfl hfn' _ hff ?_)
            | (at_delete; refine list_del rfl (.tmp 58) (.tmp 59) rfl rfl m L _ rfl HPb.out.own ⟨fn.toArray⟩ rfl hfn' ?_; intro w5 ho5 hg5; have HP5 : Hid (PD w5 g m L { d with dead := false, last := 0, files := midC keep d.files (i + 1) }) := (by rw [← HG.out hN.out]; exact PD.put HPb.out ho5 hg5); have HG5 := Lib.hid hg5; clear ho5 hg5))
          go_roundw
          case rel => exact ⟨i + 1, by omega, by go_num, HP5.out, HBr.out.trans (HXb.out.trans (Bx.grown HG5.out fun k e => Or.inr (Option.some.inj e).symm)), HBr3.out.trans (HXb.out.trans (Bx.grown HG5.out fun k e => Or.inr (Option.some.inj e).symm))⟩
          case measure => simp [intOf]; omega
        · have z0 : ((fs : Int) == 0) = false := beq_eq_false_iff_ne.2 (by omega)
          have hN1 : (fs : Int) ≤ (fb.length : Int) := by omega
          have hN0' : (0 : Int) ≤ (fs : Int) := by omega
          have qx : (ByteArray.mk fb.toArray).extract 0 fs = ⟨(fb.take fs).toArray⟩ := by
            apply ByteArray.ext
            simp [ByteArray.extract, ByteArray.copySlice]
          go_upto_region 13 with (first | (at_lookup; refine lookup_file rfl (.tmp 29) (.tmp 30) rfl m L _ rfl HPr.out.own ⟨fn.toArray⟩ rfl hfn' _ hff ?_) | fail)
          have hHeld : (wr.alloc (.cells #[.string ⟨fb.toArray⟩, .int .i64 fs] 63)).drew.cell? ⟨g, 0, none⟩ = some (.map (some m)) ∧ (wr.alloc (.cells #[.string ⟨fb.toArray⟩, .int .i64 fs] 63)).drew.cell? ⟨wr.heap.size, 0, none⟩ = some (.string ⟨fb.toArray⟩) := ⟨p0, cb⟩
          have HO3 : Hid ((wr.alloc (.cells #[.string ⟨fb.toArray⟩, .int .i64 fs] 63)).drew.ownsMap Try.prog 9 fileElem m L (datum (midC keep d.files i))) := HPb.out.own.drew
          clear cb p0
          refine Ord.wp_region_U (fun W' => W'.cell? ⟨g, 0, none⟩ = some (.map (some m)) ∧ W'.cell? ⟨wr.heap.size, 0, none⟩ = some (.string ⟨fb.toArray⟩)) [11] (by kernel_rfl) ?_
          refine take_at (i := 0) (v := ?_) 60 rfl rfl (by kernel_rfl) (by kernel_rfl) (by kernel_rfl) (by kernel_rfl) (by kernel_rfl) (by kernel_rfl) (by kernel_rfl) (fun _ _ _ h => h) (Or.inl ⟨by kernel_rfl, ?_⟩) hHeld ?_
          rotate_left
          · intro w hSw; (try dsimp only at hSw); (try obtain ⟨f0, f1⟩ := hSw); go_simp; (try with_reducible rfl)
          try simp only [Act.put, List.setIfInBounds_toArray, List.set_cons_zero, List.set_cons_succ]
          refine take_at (i := 1) (v := ?_) 61 rfl rfl (by kernel_rfl) (by kernel_rfl) (by kernel_rfl) (by kernel_rfl) (by kernel_rfl) (by kernel_rfl) (by kernel_rfl) (fun _ _ _ h => h) (Or.inl ⟨by kernel_rfl, ?_⟩) hHeld ?_
          rotate_left
          · intro w hSw; (try dsimp only at hSw); (try obtain ⟨f0, f1⟩ := hSw); go_simp; (try with_reducible rfl)
          try simp only [Act.put, List.setIfInBounds_toArray, List.set_cons_zero, List.set_cons_succ]
          refine take_at (i := 2) (v := ?_) 62 rfl rfl (by kernel_rfl) (by kernel_rfl) (by kernel_rfl) (by kernel_rfl) (by kernel_rfl) (by kernel_rfl) (by kernel_rfl) (fun _ _ _ h => h) (Or.inl ⟨by kernel_rfl, ?_⟩) hHeld ?_
          rotate_left
          · intro w hSw; (try dsimp only at hSw); (try obtain ⟨f0, f1⟩ := hSw); go_simp; (try with_reducible rfl)
          try simp only [Act.put, List.setIfInBounds_toArray, List.set_cons_zero, List.set_cons_succ]
          refine take_at (i := 3) (v := ?_) 63 rfl rfl (by kernel_rfl) (by kernel_rfl) (by kernel_rfl) (by kernel_rfl) (by kernel_rfl) (by kernel_rfl) (by kernel_rfl) (fun _ _ _ h => h) (Or.inl ⟨by kernel_rfl, ?_⟩) hHeld ?_
          rotate_left
          · intro w hSw; (try dsimp only at hSw); (try obtain ⟨f0, f1⟩ := hSw); go_simp; (try with_reducible rfl)
          try simp only [Act.put, List.setIfInBounds_toArray, List.set_cons_zero, List.set_cons_succ]
          refine take_at (i := 4) (v := ?_) 64 rfl rfl (by kernel_rfl) (by kernel_rfl) (by kernel_rfl) (by kernel_rfl) (by kernel_rfl) (by kernel_rfl) (by kernel_rfl) (fun _ _ _ h => h) (Or.inl ⟨by kernel_rfl, ?_⟩) hHeld ?_
          rotate_left
          · intro w hSw; (try dsimp only at hSw); (try obtain ⟨f0, f1⟩ := hSw); go_simp; (try with_reducible rfl)
          try simp only [Act.put, List.setIfInBounds_toArray, List.set_cons_zero, List.set_cons_succ]
          refine take_at (i := 5) (v := ?_) 65 rfl rfl (by kernel_rfl) (by kernel_rfl) (by kernel_rfl) (by kernel_rfl) (by kernel_rfl) (by kernel_rfl) (by kernel_rfl) (fun _ _ _ h => h) (Or.inl ⟨by kernel_rfl, ?_⟩) hHeld ?_
          rotate_left
          · intro w hSw; (try dsimp only at hSw); (try obtain ⟨f0, f1⟩ := hSw); go_simp; (try with_reducible rfl)
          try simp only [Act.put, List.setIfInBounds_toArray, List.set_cons_zero, List.set_cons_succ]
          refine take_at (i := 6) (v := ?_) 66 rfl rfl (by kernel_rfl) (by kernel_rfl) (by kernel_rfl) (by kernel_rfl) (by kernel_rfl) (by kernel_rfl) (by kernel_rfl) (fun _ _ _ h => h) (Or.inl ⟨by kernel_rfl, ?_⟩) hHeld ?_
          rotate_left
          · intro w hSw; (try dsimp only at hSw); (try obtain ⟨f0, f1⟩ := hSw); go_simp; (try with_reducible rfl)
          try simp only [Act.put, List.setIfInBounds_toArray, List.set_cons_zero, List.set_cons_succ]
          refine take_at (i := 7) (v := ?_) 67 rfl rfl (by kernel_rfl) (by kernel_rfl) (by kernel_rfl) (by kernel_rfl) (by kernel_rfl) (by kernel_rfl) (by kernel_rfl) (fun _ _ _ h => h) (Or.inl ⟨by kernel_rfl, ?_⟩) hHeld ?_
          rotate_left
          · intro w hSw; (try dsimp only at hSw); (try obtain ⟨f0, f1⟩ := hSw); go_simp; (try with_reducible rfl)
          try simp only [Act.put, List.setIfInBounds_toArray, List.set_cons_zero, List.set_cons_succ]
          refine take_at (i := 8) (v := ?_) 68 rfl rfl (by kernel_rfl) (by kernel_rfl) (by kernel_rfl) (by kernel_rfl) (by kernel_rfl) (by kernel_rfl) (by kernel_rfl) (fun _ _ _ h => h) (Or.inl ⟨by kernel_rfl, ?_⟩) hHeld ?_
          rotate_left
          · intro w hSw; (try dsimp only at hSw); (try obtain ⟨f0, f1⟩ := hSw); go_simp; (try with_reducible rfl)
          try simp only [Act.put, List.setIfInBounds_toArray, List.set_cons_zero, List.set_cons_succ]
          refine take_at (i := 9) (v := ?_) 69 rfl rfl (by kernel_rfl) (by kernel_rfl) (by kernel_rfl) (by kernel_rfl) (by kernel_rfl) (by kernel_rfl) (by kernel_rfl) (fun _ _ _ h => h) (Or.inl ⟨by kernel_rfl, ?_⟩) hHeld ?_
          rotate_left
          · intro w hSw; (try dsimp only at hSw); (try obtain ⟨f0, f1⟩ := hSw); go_simp; (try with_reducible rfl)
          try simp only [Act.put, List.setIfInBounds_toArray, List.set_cons_zero, List.set_cons_succ]
          refine take_at (i := 10) (v := ?_) 70 rfl rfl (by kernel_rfl) (by kernel_rfl) (by kernel_rfl) (by kernel_rfl) (by kernel_rfl) (by kernel_rfl) (by kernel_rfl) (fun _ _ _ h => h) (Or.inl ⟨by kernel_rfl, ?_⟩) hHeld ?_
          rotate_left
          · intro w hSw; (try dsimp only at hSw); (try obtain ⟨f0, f1⟩ := hSw); go_simp; (try with_reducible rfl)
          try simp only [Act.put, List.setIfInBounds_toArray, List.set_cons_zero, List.set_cons_succ]
          refine Ord.wpAnyU_one (i := 11) (by kernel_rfl) rfl (fun K hK => ?_)
          rw [if_pos (by rfl)]
          refine one_upd (.tmp 63) (.tmp 64) (.tmp 70) rfl rfl m L _ (by omega) rfl HO3.out ⟨fn.toArray⟩ rfl hfn' (fb.take fs) fs rfl ?_
          intro w5 ho5 hg5
          have HP5 : Hid (PD w5 g m L { d with dead := false, last := 0, files := midC keep d.files (i + 1) }) := by
            have hq := HE.out (by rw [hN.out]; exact hN0)
            rw [hN.out] at hq
            have ho6 := PD.put (w := (wr.alloc (.cells #[.string ⟨fb.toArray⟩, .int .i64 fs] 63)).drew) (w' := w5) (d := { d with dead := false, last := 0, files := midC keep d.files i }) ⟨World.rowIs.drew HPb.out.row, HO3.out, HPb.out.ne⟩ ho5 hg5
            rw [show (ByteArray.mk fn.toArray).data.toList = fn from List.toList_toArray, hq] at ho6
            exact ho6.upto (by have hq2 := mid_len keep d.files (i + 1); rw [hL.out] at hq2; exact hq2)
          have HG5 := Lib.hid hg5
          clear ho5 hg5
          refine hK.out _ _ (fun h => by cases h) ?_
          clear hK K
          try simp only [Act.put, List.setIfInBounds_toArray, List.set_cons_zero, List.set_cons_succ]
          refine Ord.wpAnyU_done (by kernel_rfl) ?_ _
          go_wp2
          go_roundw
          case rel =>
            have hx := HXb.out.trans (Bx.grown (a := (wr.alloc (.cells #[.string ⟨fb.toArray⟩, .int .i64 fs] 63))) ⟨HG5.out.os, HG5.out.tape, HG5.out.output, HG5.out.size, HG5.out.block⟩ fun k e => Or.inr (Option.some.inj e).symm)
            exact ⟨i + 1, by omega, by go_num, HP5.out, HBr.out.trans hx, HBr3.out.trans hx⟩
          case measure => simp [intOf]; omega
    · have eiL : i = L := by omega
      subst eiL
      have di : decide ((i : Int) < (i : Int)) = false := decide_eq_false (by omega)
      go_wp2
      go_ret
      refine ⟨rfl, ?_, HBr.out⟩
      rw [← hD.out]
      have := HPr.out
      rw [← hL.out, mid_all, hL.out] at this
      exact this

end Dsk
end Go.Proofs.Ytnbmjbelmcibgaa
