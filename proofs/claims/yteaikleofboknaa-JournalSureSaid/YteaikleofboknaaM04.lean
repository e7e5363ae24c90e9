/- Texts put together: DskK, DskO, DskD, CrcP. -/
import Derived.Test.YteaikleofboknaaM03
import Derived.Deep.DeepMust
import Derived.Deep.Cut
import Derived.BigQuiet
import Derived.WalkKit
import Derived.WalkLawsBesides
set_option linter.all false
section
namespace Go.Proofs.Yteaikleofboknaa
open Go.RowKit Go.Great Go.Maps
namespace Dsk
theorem Bx.toBelow {g m B : Nat} {a b : World} (h : Bx g m a b) (hB : B ≤ a.heap.size) (hg : B ≤ g) (hm : B ≤ m) : Below B a b :=
  ⟨h.os, h.tape, h.output, h.size, fun k hk => h.block k (Nat.lt_of_lt_of_le hk hB) (by omega) (by omega)⟩
theorem crash_len (keep : List Int) : ∀ (l : List FileIn) (i : Nat), (crashF keep i l).length ≤ l.length
  | [], i => Nat.le_refl _
  | f :: l, i => by
    have ih := crash_len keep l (i + 1)
    rw [crash_cons]
    split
    · rw [List.length_cons]; omega
    · rw [List.length_cons, List.length_cons]; omega
theorem mid_len (keep : List Int) (l : List FileIn) (i : Nat) : (midC keep l i).length ≤ l.length := by
  unfold midC
  have := crash_len keep (l.take i) 0
  rw [List.length_append, List.length_drop]
  rw [List.length_take] at this
  omega
theorem PD.upto {w : World} {g m n N : Nat} {d : DkIn} (h : PD w g m n d) (hN : d.files.length ≤ N) : PD w g m N d := ⟨h.row, h.tight.own.mono hN, h.ne⟩
theorem left_none (keep : List Int) (i : Nat) (f : FileIn) (h : ¬ i < keep.length) : leftOf keep i f = f.sure := by
  unfold leftOf
  rw [List.getElem?_eq_none (by omega)]
  rfl
theorem left_some (keep : List Int) (i : Nat) (f : FileIn) (h : i < keep.length) (hs : f.sure ≤ f.by'.length) (hl : f.by'.length ≤ 1000000000) : wrap64 ((f.sure : Int) + (bits BinOp.and IntKind.i64 keep[i] 4611686018427387903).tmod ((f.by'.length : Int) - (f.sure : Int) + 1)) = (leftOf keep i f : Nat) := by
  rw [mask_kept]
  unfold leftOf keepOf
  rw [List.getElem?_eq_getElem h]
  dsimp only
  have h0 := Int.emod_nonneg keep[i] (b := 4611686018427387904) (by decide)
  generalize keep[i] % 4611686018427387904 = k at *
  obtain ⟨K, rfl⟩ : ∃ K : Nat, k = K := ⟨k.toNat, by omega⟩
  have e : (f.by'.length : Int) - (f.sure : Int) + 1 = ((f.by'.length - f.sure + 1 : Nat) : Int) := by omega
  rw [e, ← Int.ofNat_tmod, Int.toNat_natCast]
  have := Nat.mod_lt K (y := f.by'.length - f.sure + 1) (by omega)
  obtain ⟨q, hq⟩ : ∃ q, K % (f.by'.length - f.sure + 1) = q := ⟨_, rfl⟩
  rw [hq] at this ⊢
  unfold wrap64
  omega
/-- The names that stand in a row. -/
def Nms (w : World) (B : Nat) (v : Value) (l : List FileIn) (n : Nat) : Prop := ∃ a cap, v = .slice a n cap ∧ ∀ i, (hi : i < l.length) → ∃ gv, a = some ⟨gv, 0, none⟩ ∧ B ≤ gv ∧ gv < w.heap.size ∧ w.cell? ⟨gv, i, none⟩ = some (.string ⟨l[i].nm.toArray⟩)
theorem nms_of {w : World} {B : Nat} {v : Value} {l : List FileIn} {n : Nat} (hn : l.length = n) (h : w.ownsRow B 9 1 v (nmsOf l).length (rowOf (nmsOf l))) : Nms w B v l n := by
  subst hn
  have hl : (nmsOf l).length = l.length := by simp [nmsOf]
  rw [hl] at h
  have h' := h
  obtain ⟨h0, h1⟩ := h
  rcases h1 with ⟨rfl, hz⟩ | ⟨g, cap, cur, rfl, hg, hb, hn, hm, hs, ht⟩
  · exact ⟨none, 0, by rw [hz], fun i hi => absurd hi (by omega)⟩
  · refine ⟨some ⟨g, 0, none⟩, cap, rfl, fun i hi => ⟨g, rfl, hg, (h'.lt g rfl).2, ?_⟩⟩
    have := h'.cells rfl i (.string ⟨l[i].nm.toArray⟩) (by simp [rowOf, nmsOf, hi, encStr])
    rwa [show ((⟨g, 0, none⟩ : Addr).add i) = ⟨g, i, none⟩ from by unfold Addr.add; split <;> simp_all] at this

set_option maxRecDepth 100000 in
set_option maxHeartbeats 4000000 in
theorem crash_any (W0 w : World) (g m n : Nat) (d : DkIn) (h : PD w g m n d) (hd : Dok d) (hn : d.files.length < 100000) (hl : ∀ f ∈ d.files, f.by'.length ≤ 1000000000) (kv : Value) (keep : List Int) (hk : In.IsInts .i64 W0 kv keep) (hw : Below W0.heap.size W0 w) (hg0 : W0.heap.size ≤ g) (hm0 : W0.heap.size ≤ m) : Calls Try.prog 44 #[.pointer (some ⟨g, 0, none⟩), kv] w fun e w' => e = .returned (.int .i64 0) ∧ Hid (PD w' g m d.files.length (crashV d keep)) ∧ Hid (Bx g m w w') := by
  obtain ⟨ka, kcap, rfl, hkl, hka, hkw, -, -⟩ := hk
  have HP := Lib.hid h.tight
  have HK := Lib.hid hka
  have HW := Lib.hid hw
  have CG : Hid (Calls Try.prog 43 #[.pointer (some ⟨g, 0, none⟩)] w fun e w' => e = .returned (.bool true) ∧ w = w') := given_any w g m n d h
  have f3 := World.rowIs.frozen h.row 3
  have f5 := World.rowIs.frozen h.row 5
  obtain ⟨c0, c1, c2, c3, c4, c5⟩ := h.cells
  have hd1 : Dok { d with dead := false, last := 0 } := ⟨hd.fok, hd.room, hd.ops, ⟨Int.le_refl 0, by show (0 : Int) ≤ _; omega⟩⟩
  have HP1 : Hid (PD ((w.setCell ⟨g, 5, none⟩ (.bool false)).setCell ⟨g, 3, none⟩ (.int .i64 0)) g m d.files.length { d with dead := false, last := 0 }) := (HP.out.setDead false).setLast 0
  have CN : Hid (∀ W, PD W g m d.files.length { d with dead := false, last := 0 } → Calls Try.prog 20 #[.pointer (some ⟨g, 0, none⟩)] W fun e w' => ∃ v, e = .returned v ∧ Hid (w'.ownsRow W.heap.size 9 1 v (nmsOf d.files).length (rowOf (nmsOf d.files))) ∧ Hid (Below W.heap.size W w')) := fun W hW => names_any W g m d.files.length { d with dead := false, last := 0 } hW hd1 (by omega)
  have gset : ∀ (W : World) (i : Nat) (u : Value), W.grownBy (W.setCell ⟨g, i, none⟩ u) (some g) := fun W i u => ⟨rfl, rfl, rfl, by simp, fun j hj hne => Below.heap_setCell _ _ _ _ fun e => hne (by rw [e])⟩
  have HB1 : Hid (Bx g m w ((w.setCell ⟨g, 5, none⟩ (.bool false)).setCell ⟨g, 3, none⟩ (.int .i64 0))) := Bx.grown (grw_trans (gset _ _ _) (gset _ _ _)) fun k e => Or.inl (Option.some.inj e).symm
  obtain ⟨hgl, hml⟩ := h.lt
  clear h hka hw
  have HF := Lib.hid hd.fok
  have HL := Lib.hid hl
  clear hl
  obtain ⟨L, hL⟩ : ∃ L, Hid (d.files.length = L) := ⟨_, rfl⟩
  obtain ⟨D, hD⟩ : ∃ D, Hid (crashV d keep = D) := ⟨_, rfl⟩
  rw [hL.out] at HP1 CN hn ⊢
  rw [hD.out]
  go_enter Try.func44, Try.ntmps44
  go_wp2_with (first
    | (go_at_call 43; (with_reducible refine CG.out.mono ?_); rintro e w2 ⟨rfl, rfl⟩)
    | (go_at_call 20; (refine (CN.out _ HP1.out).mono ?_); rintro e w3 ⟨nv, rfl, HNR, HNB⟩; obtain ⟨na, ncap, rfl, HN⟩ := nms_of hL.out HNR.out; have HN := Lib.hid HN; clear HNR))
  obtain ⟨W1, hW1⟩ : ∃ W1, (w.setCell ⟨g, 5, none⟩ (.bool false)).setCell ⟨g, 3, none⟩ (.int .i64 0) = W1 := ⟨_, rfl⟩
  rw [hW1] at HNB HN HP1 HB1
  have hs1 : w.heap.size = W1.heap.size := by rw [← hW1]; simp
  clear hW1 c0 c1 c2 c3 c4 c5 f3 f5 CG CN gset hd1
  have HP3 := Lib.hid (HP1.out.below HNB.out)
  have HB3 : Hid (Bx g m w w3) := HB1.out.trans (Bx.below HNB.out)
  have hs3 : W1.heap.size ≤ w3.heap.size := HNB.out.size
  clear HB1 HNB HP1
  go_loopw [21] (fun v21 wr => ∃ i : Nat, i ≤ L ∧ v21 = .int .i64 (i : Int) ∧ Hid (PD wr g m L { d with dead := false, last := 0, files := midC keep d.files i }) ∧ Hid (Bx g m w wr) ∧ Hid (Bx g m w3 wr)) (fun v _ => L - (intOf v).toNat)
  case atStart => exact ⟨0, Nat.zero_le _, rfl, by rw [mid_zero]; exact HP3.out, HB3.out, Bx.refl _ _ _⟩
  case round =>
    obtain ⟨i, hiL, rfl, HPr, HBr, HBr3⟩ := hrel
    by_cases hi : i < L
    · have di : decide ((i : Int) < (L : Int)) = true := decide_eq_true (by omega)
      have hil : i < d.files.length := by rw [hL.out]; exact hi
      obtain ⟨gv, rfl, hgv1, hgv2, hgv3⟩ := HN.out i hil
      have hcn : wr.cell? ⟨gv, i, none⟩ = some (.string ⟨d.files[i].nm.toArray⟩) := by
        unfold World.cell? at hgv3 ⊢
        rw [HBr3.out.block gv hgv2 (by omega) (by omega)]
        exact hgv3
      have hgvl : gv < wr.heap.size := Nat.lt_of_lt_of_le hgv2 HBr3.out.size
      obtain ⟨c0, -⟩ := HPr.out.cells
      have hgr : g < wr.heap.size := HPr.out.lt.1
      have hsz : (ByteArray.mk d.files[i].by'.toArray).size = d.files[i].by'.length := by simp [ByteArray.size]
      have hPf : Hid (find d.files[i].nm (midC keep d.files i) = some d.files[i]) := mid_find keep HF.out i hil
      have hfl : d.files[i].by'.length ≤ 1000000000 := HL.out _ (List.getElem_mem hil)
      have hfs : d.files[i].sure ≤ d.files[i].by'.length := HF.out.sure _ (List.getElem_mem hil)
      have hfn : d.files[i].nm.length ≤ 12 := by
        have := HF.out.name _ (List.getElem_mem hil)
        unfold isName at this
        simp at this
        exact this.2
      have HG := Lib.hid (mid_gone keep HF.out i hil)
      have HE := Lib.hid (mid_kept keep HF.out i hil)
      clear HN
      clear hd
      generalize d.files[i] = f at *
      obtain ⟨fn, fb, fs⟩ := f
      dsimp only at *
      have hff : (find (ByteArray.mk fn.toArray).data.toList (midC keep d.files i)).getD ⟨(ByteArray.mk fn.toArray).data.toList, [], 0⟩ = ⟨fn, fb, fs⟩ := by
        show (find fn.toArray.toList _).getD _ = _
        rw [List.toList_toArray, hPf.out]
        rfl
      have hfn' : (ByteArray.mk fn.toArray).size ≤ 1000000000 := by
        show fn.toArray.size ≤ _
        rw [List.size_toArray]
        omega
      clear hPf hgv1 hgv2 hgv3
      by_cases hik : i < keep.length
      · have dk : decide ((i : Int) < (keep.length : Int)) = true := decide_eq_true (by omega)
        obtain ⟨kb, koff, rfl, hkb, hkc⟩ := HK.out i hik
        have hkc2 : wr.cell? ⟨kb, koff + i, none⟩ = some (.int .i64 (keep.getD i 0)) := by
          have hb := HW.out.trans (HBr.out.toBelow HW.out.size hg0 hm0)
          exact (hb.cell (p := ⟨kb, koff + i, none⟩) hkb).trans hkc
        have hkbr : kb < wr.heap.size := Nat.lt_of_lt_of_le hkb (Nat.le_trans HW.out.size HBr.out.size)
        have hrem : ((fb.length : Int) - fs + 1 == 0) = false := beq_eq_false_iff_ne.2 (by omega)
        go_upto_region 10 with (at_lookup; refine lookup_file rfl (.tmp 29) (.tmp 30) rfl m L _ rfl HPr.out.own ⟨fn.toArray⟩ rfl hfn' _ hff ?_)
        go_quiet (fail)
        have hval := left_some keep i ⟨fn, fb, fs⟩ hik hfs hfl
        dsimp only at hval
        rw [hval]
        have hle := (left_le keep i ⟨fn, fb, fs⟩ hfs).2
        obtain ⟨N, hN⟩ : ∃ N, Hid (leftOf keep i ⟨fn, fb, fs⟩ = N) := ⟨_, rfl⟩
        rw [hN.out] at hle ⊢
        dsimp only at hle
        clear hval hrem hkc2 hkc dk
        have HPb : Hid (PD ((wr.alloc (.cells #[.string ⟨fb.toArray⟩, .int .i64 fs] 82)).drewN nq) g m L { d with dead := false, last := 0, files := midC keep d.files i }) := HPr.out.below (below_dN (below_al (Below.refl _ _) _) nq)
        have HXb : Hid (Bx g m wr ((wr.alloc (.cells #[.string ⟨fb.toArray⟩, .int .i64 fs] 82)).drewN nq)) := Bx.below (below_dN (below_al (Below.refl _ _) _) nq)
        have cb : ((wr.alloc (.cells #[.string ⟨fb.toArray⟩, .int .i64 fs] 82)).drewN nq).cell? ⟨wr.heap.size, 0, none⟩ = some (.string ⟨fb.toArray⟩) := by
          show (wr.alloc (.cells #[.string ⟨fb.toArray⟩, .int .i64 fs] 82)).cell? _ = _
          rw [World.cell?_alloc_at _ _ _ _ (by simp)]; rfl
        obtain ⟨p0, -⟩ := HPb.out.cells
        obtain ⟨Wb, hWb⟩ : ∃ Wb, ((wr.alloc (.cells #[.string ⟨fb.toArray⟩, .int .i64 fs] 82)).drewN nq) = Wb := ⟨_, rfl⟩
        rw [hWb] at HPb HXb cb p0 ⊢
        have hbl : wr.heap.size < Wb.heap.size := by rw [← hWb]; simp
        by_cases hN0 : N = 0
        · subst hN0
          have z0 : (((0 : Nat) : Int) == 0) = true := rfl
          go_wp2_with (first
            | (at_delete; refine list_del rfl (.tmp 58) (.tmp 59) rfl rfl m L _ rfl HPb.out.own ⟨fn.toArray⟩ rfl hfn' ?_; intro w5 ho5 hg5; have HP5 : Hid (PD w5 g m L { d with dead := false, last := 0, files := midC keep d.files (i + 1) }) := (by rw [← HG.out hN.out]; exact PD.put HPb.out ho5 hg5); have HG5 := Lib.hid hg5; clear ho5 hg5))
          go_roundw
          case rel => exact ⟨i + 1, by omega, by go_num, HP5.out, HBr.out.trans (HXb.out.trans (Bx.grown HG5.out fun k e => Or.inr (Option.some.inj e).symm)), HBr3.out.trans (HXb.out.trans (Bx.grown HG5.out fun k e => Or.inr (Option.some.inj e).symm))⟩
          case measure => simp [intOf]; omega
        · have z0 : ((N : Int) == 0) = false := beq_eq_false_iff_ne.2 (by omega)
          have hN1 : (N : Int) ≤ (fb.length : Int) := by omega
          have hN0' : (0 : Int) ≤ (N : Int) := by omega
          have qx : (ByteArray.mk fb.toArray).extract 0 N = ⟨(fb.take N).toArray⟩ := by
            apply ByteArray.ext
            simp [ByteArray.extract, ByteArray.copySlice]
          go_upto_region 13 with (first | fail | fail)
          have hHeld : Wb.drew.cell? ⟨g, 0, none⟩ = some (.map (some m)) ∧ Wb.drew.cell? ⟨wr.heap.size, 0, none⟩ = some (.string ⟨fb.toArray⟩) := ⟨p0, cb⟩
          have HO3 : Hid (Wb.drew.ownsMap Try.prog 9 fileElem m L (datum (midC keep d.files i))) := HPb.out.own.drew
          clear cb p0
          refine Ord.wp_region_U (fun W' => W'.cell? ⟨g, 0, none⟩ = some (.map (some m)) ∧ W'.cell? ⟨wr.heap.size, 0, none⟩ = some (.string ⟨fb.toArray⟩)) [11] (by kernel_rfl) ?_
          refine take_at (i := 0) (v := ?_) 60 rfl rfl (by kernel_rfl) (by kernel_rfl) (by kernel_rfl) (by kernel_rfl) (by kernel_rfl) (by kernel_rfl) (by kernel_rfl) (fun _ _ _ h => h) (Or.inl ⟨by kernel_rfl, ?_⟩) hHeld ?_
          rotate_left
          · intro w hSw; (try dsimp only at hSw); (try obtain ⟨f0, f1⟩ := hSw); go_simp; (try with_reducible rfl)
          try simp only [Act.put, List.setIfInBounds_toArray, List.set_cons_zero, List.set_cons_succ]
          refine take_at (i := 1) (v := ?_) 61 rfl rfl (by kernel_rfl) (by kernel_rfl) (by kernel_rfl) (by kernel_rfl) (by kernel_rfl) (by kernel_rfl) (by kernel_rfl) (fun _ _ _ h => h) (Or.inl ⟨by kernel_rfl, ?_⟩) hHeld ?_
          rotate_left
          · intro w hSw; (try dsimp only at hSw); (try obtain ⟨f0, f1⟩ := hSw); go_simp; (try with_reducible rfl)
          try simp only [Act.put, List.setIfInBounds_toArray, List.set_cons_zero, List.set_cons_succ]
          refine take_at (i := 2) (v := ?_) 62 rfl rfl (by kernel_rfl) (by kernel_rfl) (by kernel_rfl) (by kernel_rfl) (by kernel_rfl) (by kernel_rfl) (by kernel_rfl) (fun _ _ _ h => h) (Or.inl ⟨by kernel_rfl, ?_⟩) hHeld ?_
          rotate_left
          · intro w hSw; (try dsimp only at hSw); (try obtain ⟨f0, f1⟩ := hSw); go_simp; (try with_reducible rfl)
          try simp only [Act.put, List.setIfInBounds_toArray, List.set_cons_zero, List.set_cons_succ]
          refine take_at (i := 3) (v := ?_) 63 rfl rfl (by kernel_rfl) (by kernel_rfl) (by kernel_rfl) (by kernel_rfl) (by kernel_rfl) (by kernel_rfl) (by kernel_rfl) (fun _ _ _ h => h) (Or.inl ⟨by kernel_rfl, ?_⟩) hHeld ?_
          rotate_left
          · intro w hSw; (try dsimp only at hSw); (try obtain ⟨f0, f1⟩ := hSw); go_simp; (try with_reducible rfl)
          try simp only [Act.put, List.setIfInBounds_toArray, List.set_cons_zero, List.set_cons_succ]
          refine take_at (i := 4) (v := ?_) 64 rfl rfl (by kernel_rfl) (by kernel_rfl) (by kernel_rfl) (by kernel_rfl) (by kernel_rfl) (by kernel_rfl) (by kernel_rfl) (fun _ _ _ h => h) (Or.inl ⟨by kernel_rfl, ?_⟩) hHeld ?_
          rotate_left
          · intro w hSw; (try dsimp only at hSw); (try obtain ⟨f0, f1⟩ := hSw); go_simp; (try with_reducible rfl)
          try simp only [Act.put, List.setIfInBounds_toArray, List.set_cons_zero, List.set_cons_succ]
          refine take_at (i := 5) (v := ?_) 65 rfl rfl (by kernel_rfl) (by kernel_rfl) (by kernel_rfl) (by kernel_rfl) (by kernel_rfl) (by kernel_rfl) (by kernel_rfl) (fun _ _ _ h => h) (Or.inl ⟨by kernel_rfl, ?_⟩) hHeld ?_
          rotate_left
          · intro w hSw; (try dsimp only at hSw); (try obtain ⟨f0, f1⟩ := hSw); go_simp; (try with_reducible rfl)
          try simp only [Act.put, List.setIfInBounds_toArray, List.set_cons_zero, List.set_cons_succ]
          refine take_at (i := 6) (v := ?_) 66 rfl rfl (by kernel_rfl) (by kernel_rfl) (by kernel_rfl) (by kernel_rfl) (by kernel_rfl) (by kernel_rfl) (by kernel_rfl) (fun _ _ _ h => h) (Or.inl ⟨by kernel_rfl, ?_⟩) hHeld ?_
          rotate_left
          · intro w hSw; (try dsimp only at hSw); (try obtain ⟨f0, f1⟩ := hSw); go_simp; (try with_reducible rfl)
          try simp only [Act.put, List.setIfInBounds_toArray, List.set_cons_zero, List.set_cons_succ]
          refine take_at (i := 7) (v := ?_) 67 rfl rfl (by kernel_rfl) (by kernel_rfl) (by kernel_rfl) (by kernel_rfl) (by kernel_rfl) (by kernel_rfl) (by kernel_rfl) (fun _ _ _ h => h) (Or.inl ⟨by kernel_rfl, ?_⟩) hHeld ?_
          rotate_left
          · intro w hSw; (try dsimp only at hSw); (try obtain ⟨f0, f1⟩ := hSw); go_simp; (try with_reducible rfl)
          try simp only [Act.put, List.setIfInBounds_toArray, List.set_cons_zero, List.set_cons_succ]
          refine take_at (i := 8) (v := ?_) 68 rfl rfl (by kernel_rfl) (by kernel_rfl) (by kernel_rfl) (by kernel_rfl) (by kernel_rfl) (by kernel_rfl) (by kernel_rfl) (fun _ _ _ h => h) (Or.inl ⟨by kernel_rfl, ?_⟩) hHeld ?_
          rotate_left
          · intro w hSw; (try dsimp only at hSw); (try obtain ⟨f0, f1⟩ := hSw); go_simp; (try with_reducible rfl)
          try simp only [Act.put, List.setIfInBounds_toArray, List.set_cons_zero, List.set_cons_succ]
          refine take_at (i := 9) (v := ?_) 69 rfl rfl (by kernel_rfl) (by kernel_rfl) (by kernel_rfl) (by kernel_rfl) (by kernel_rfl) (by kernel_rfl) (by kernel_rfl) (fun _ _ _ h => h) (Or.inl ⟨by kernel_rfl, ?_⟩) hHeld ?_
          rotate_left
          · intro w hSw; (try dsimp only at hSw); (try obtain ⟨f0, f1⟩ := hSw); go_simp; (try with_reducible rfl)
          try simp only [Act.put, List.setIfInBounds_toArray, List.set_cons_zero, List.set_cons_succ]
          refine take_at (i := 10) (v := ?_) 70 rfl rfl (by kernel_rfl) (by kernel_rfl) (by kernel_rfl) (by kernel_rfl) (by kernel_rfl) (by kernel_rfl) (by kernel_rfl) (fun _ _ _ h => h) (Or.inl ⟨by kernel_rfl, ?_⟩) hHeld ?_
          rotate_left
          · intro w hSw; (try dsimp only at hSw); (try obtain ⟨f0, f1⟩ := hSw); go_simp; (try with_reducible rfl)
          try simp only [Act.put, List.setIfInBounds_toArray, List.set_cons_zero, List.set_cons_succ]
          refine Ord.wpAnyU_one (i := 11) (by kernel_rfl) rfl (fun K hK => ?_)
          rw [if_pos (by rfl)]
          refine one_upd (.tmp 63) (.tmp 64) (.tmp 70) rfl rfl m L _ (by omega) rfl HO3.out ⟨fn.toArray⟩ rfl hfn' (fb.take N) N rfl ?_
          intro w5 ho5 hg5
          have HP5 : Hid (PD w5 g m L { d with dead := false, last := 0, files := midC keep d.files (i + 1) }) := by
            have hq := HE.out (by rw [hN.out]; exact hN0)
            rw [hN.out] at hq
            have ho6 := PD.put (w := Wb.drew) (w' := w5) (d := { d with dead := false, last := 0, files := midC keep d.files i }) ⟨World.rowIs.drew HPb.out.row, HO3.out, HPb.out.ne⟩ ho5 hg5
            rw [show (ByteArray.mk fn.toArray).data.toList = fn from List.toList_toArray, hq] at ho6
            exact ho6.upto (by have hq2 := mid_len keep d.files (i + 1); rw [hL.out] at hq2; exact hq2)
          have HG5 := Lib.hid hg5
          clear ho5 hg5
          refine hK.out _ _ (fun h => by cases h) ?_
          clear hK K
          try simp only [Act.put, List.setIfInBounds_toArray, List.set_cons_zero, List.set_cons_succ]
          refine Ord.wpAnyU_done (by kernel_rfl) ?_ _
          go_wp2
          go_roundw
          case rel =>
            have hx := HXb.out.trans (Bx.grown (a := Wb) ⟨HG5.out.os, HG5.out.tape, HG5.out.output, HG5.out.size, HG5.out.block⟩ fun k e => Or.inr (Option.some.inj e).symm)
            exact ⟨i + 1, by omega, by go_num, HP5.out, HBr.out.trans hx, HBr3.out.trans hx⟩
          case measure => simp [intOf]; omega
      · have dk : decide ((i : Int) < (keep.length : Int)) = false := decide_eq_false (by omega)
        have hle : fs ≤ fb.length := hfs
        have hN : Hid (leftOf keep i ⟨fn, fb, fs⟩ = fs) := left_none keep i _ hik
        obtain ⟨N, hNe⟩ : ∃ N, fs = N := ⟨_, rfl⟩
        subst hNe
        have HPb : Hid (PD (wr.alloc (.cells #[.string ⟨fb.toArray⟩, .int .i64 fs] 82)) g m L { d with dead := false, last := 0, files := midC keep d.files i }) := HPr.out.below (below_al (Below.refl _ _) _)
        have HXb : Hid (Bx g m wr (wr.alloc (.cells #[.string ⟨fb.toArray⟩, .int .i64 fs] 82))) := Bx.below (below_al (Below.refl _ _) _)
        have cb : (wr.alloc (.cells #[.string ⟨fb.toArray⟩, .int .i64 fs] 82)).cell? ⟨wr.heap.size, 0, none⟩ = some (.string ⟨fb.toArray⟩) := by
          show (wr.alloc (.cells #[.string ⟨fb.toArray⟩, .int .i64 fs] 82)).cell? _ = _
          rw [World.cell?_alloc_at _ _ _ _ (by simp)]; rfl
        obtain ⟨p0, -⟩ := HPb.out.cells
        have hbl : wr.heap.size < (wr.alloc (.cells #[.string ⟨fb.toArray⟩, .int .i64 fs] 82)).heap.size := by simp
        by_cases hN0 : fs = 0
        · subst hN0
          have z0 : (((0 : Nat) : Int) == 0) = true := rfl
          go_wp2_with (first
            | (at_lookup; refine lookup_file rfl (.tmp 29) (.tmp 30) rfl m L _ rfl HPr.out.own ⟨fn.toArray⟩ rfl hfn' _ hff ?_)
            | (at_delete; refine list_del rfl (.tmp 58) (.tmp 59) rfl rfl m L _ rfl HPb.out.own ⟨fn.toArray⟩ rfl hfn' ?_; intro w5 ho5 hg5; have HP5 : Hid (PD w5 g m L { d with dead := false, last := 0, files := midC keep d.files (i + 1) }) := (by rw [← HG.out hN.out]; exact PD.put HPb.out ho5 hg5); have HG5 := Lib.hid hg5; clear ho5 hg5))
          go_roundw
          case rel => exact ⟨i + 1, by omega, by go_num, HP5.out, HBr.out.trans (HXb.out.trans (Bx.grown HG5.out fun k e => Or.inr (Option.some.inj e).symm)), HBr3.out.trans (HXb.out.trans (Bx.grown HG5.out fun k e => Or.inr (Option.some.inj e).symm))⟩
          case measure => simp [intOf]; omega
        · have z0 : ((fs : Int) == 0) = false := beq_eq_false_iff_ne.2 (by omega)
          have hN1 : (fs : Int) ≤ (fb.length : Int) := by omega
          have hN0' : (0 : Int) ≤ (fs : Int) := by omega
          have qx : (ByteArray.mk fb.toArray).extract 0 fs = ⟨(fb.take fs).toArray⟩ := by
            apply ByteArray.ext
            simp [ByteArray.extract, ByteArray.copySlice]
          go_upto_region 13 with (first | (at_lookup; refine lookup_file rfl (.tmp 29) (.tmp 30) rfl m L _ rfl HPr.out.own ⟨fn.toArray⟩ rfl hfn' _ hff ?_) | fail)
          have hHeld : (wr.alloc (.cells #[.string ⟨fb.toArray⟩, .int .i64 fs] 82)).drew.cell? ⟨g, 0, none⟩ = some (.map (some m)) ∧ (wr.alloc (.cells #[.string ⟨fb.toArray⟩, .int .i64 fs] 82)).drew.cell? ⟨wr.heap.size, 0, none⟩ = some (.string ⟨fb.toArray⟩) := ⟨p0, cb⟩
          have HO3 : Hid ((wr.alloc (.cells #[.string ⟨fb.toArray⟩, .int .i64 fs] 82)).drew.ownsMap Try.prog 9 fileElem m L (datum (midC keep d.files i))) := HPb.out.own.drew
          clear cb p0
          refine Ord.wp_region_U (fun W' => W'.cell? ⟨g, 0, none⟩ = some (.map (some m)) ∧ W'.cell? ⟨wr.heap.size, 0, none⟩ = some (.string ⟨fb.toArray⟩)) [11] (by kernel_rfl) ?_
          refine take_at (i := 0) (v := ?_) 60 rfl rfl (by kernel_rfl) (by kernel_rfl) (by kernel_rfl) (by kernel_rfl) (by kernel_rfl) (by kernel_rfl) (by kernel_rfl) (fun _ _ _ h => h) (Or.inl ⟨by kernel_rfl, ?_⟩) hHeld ?_
          rotate_left
          · intro w hSw; (try dsimp only at hSw); (try obtain ⟨f0, f1⟩ := hSw); go_simp; (try with_reducible rfl)
          try simp only [Act.put, List.setIfInBounds_toArray, List.set_cons_zero, List.set_cons_succ]
          refine take_at (i := 1) (v := ?_) 61 rfl rfl (by kernel_rfl) (by kernel_rfl) (by kernel_rfl) (by kernel_rfl) (by kernel_rfl) (by kernel_rfl) (by kernel_rfl) (fun _ _ _ h => h) (Or.inl ⟨by kernel_rfl, ?_⟩) hHeld ?_
          rotate_left
          · intro w hSw; (try dsimp only at hSw); (try obtain ⟨f0, f1⟩ := hSw); go_simp; (try with_reducible rfl)
          try simp only [Act.put, List.setIfInBounds_toArray, List.set_cons_zero, List.set_cons_succ]
          refine take_at (i := 2) (v := ?_) 62 rfl rfl (by kernel_rfl) (by kernel_rfl) (by kernel_rfl) (by kernel_rfl) (by kernel_rfl) (by kernel_rfl) (by kernel_rfl) (fun _ _ _ h => h) (Or.inl ⟨by kernel_rfl, ?_⟩) hHeld ?_
          rotate_left
          · intro w hSw; (try dsimp only at hSw); (try obtain ⟨f0, f1⟩ := hSw); go_simp; (try with_reducible rfl)
          try simp only [Act.put, List.setIfInBounds_toArray, List.set_cons_zero, List.set_cons_succ]
          refine take_at (i := 3) (v := ?_) 63 rfl rfl (by kernel_rfl) (by kernel_rfl) (by kernel_rfl) (by kernel_rfl) (by kernel_rfl) (by kernel_rfl) (by kernel_rfl) (fun _ _ _ h => h) (Or.inl ⟨by kernel_rfl, ?_⟩) hHeld ?_
          rotate_left
          · intro w hSw; (try dsimp only at hSw); (try obtain ⟨f0, f1⟩ := hSw); go_simp; (try with_reducible rfl)
          try simp only [Act.put, List.setIfInBounds_toArray, List.set_cons_zero, List.set_cons_succ]
          refine take_at (i := 4) (v := ?_) 64 rfl rfl (by kernel_rfl) (by kernel_rfl) (by kernel_rfl) (by kernel_rfl) (by kernel_rfl) (by kernel_rfl) (by kernel_rfl) (fun _ _ _ h => h) (Or.inl ⟨by kernel_rfl, ?_⟩) hHeld ?_
          rotate_left
          · intro w hSw; (try dsimp only at hSw); (try obtain ⟨f0, f1⟩ := hSw); go_simp; (try with_reducible rfl)
          try simp only [Act.put, List.setIfInBounds_toArray, List.set_cons_zero, List.set_cons_succ]
          refine take_at (i := 5) (v := ?_) 65 rfl rfl (by kernel_rfl) (by kernel_rfl) (by kernel_rfl) (by kernel_rfl) (by kernel_rfl) (by kernel_rfl) (by kernel_rfl) (fun _ _ _ h => h) (Or.inl ⟨by kernel_rfl, ?_⟩) hHeld ?_
          rotate_left
          · intro w hSw; (try dsimp only at hSw); (try obtain ⟨f0, f1⟩ := hSw); go_simp; (try with_reducible rfl)
          try simp only [Act.put, List.setIfInBounds_toArray, List.set_cons_zero, List.set_cons_succ]
          refine take_at (i := 6) (v := ?_) 66 rfl rfl (by kernel_rfl) (by kernel_rfl) (by kernel_rfl) (by kernel_rfl) (by kernel_rfl) (by kernel_rfl) (by kernel_rfl) (fun _ _ _ h => h) (Or.inl ⟨by kernel_rfl, ?_⟩) hHeld ?_
          rotate_left
          · intro w hSw; (try dsimp only at hSw); (try obtain ⟨f0, f1⟩ := hSw); go_simp; (try with_reducible rfl)
          try simp only [Act.put, List.setIfInBounds_toArray, List.set_cons_zero, List.set_cons_succ]
          refine take_at (i := 7) (v := ?_) 67 rfl rfl (by kernel_rfl) (by kernel_rfl) (by kernel_rfl) (by kernel_rfl) (by kernel_rfl) (by kernel_rfl) (by kernel_rfl) (fun _ _ _ h => h) (Or.inl ⟨by kernel_rfl, ?_⟩) hHeld ?_
          rotate_left
          · intro w hSw; (try dsimp only at hSw); (try obtain ⟨f0, f1⟩ := hSw); go_simp; (try with_reducible rfl)
          try simp only [Act.put, List.setIfInBounds_toArray, List.set_cons_zero, List.set_cons_succ]
          refine take_at (i := 8) (v := ?_) 68 rfl rfl (by kernel_rfl) (by kernel_rfl) (by kernel_rfl) (by kernel_rfl) (by kernel_rfl) (by kernel_rfl) (by kernel_rfl) (fun _ _ _ h => h) (Or.inl ⟨by kernel_rfl, ?_⟩) hHeld ?_
          rotate_left
          · intro w hSw; (try dsimp only at hSw); (try obtain ⟨f0, f1⟩ := hSw); go_simp; (try with_reducible rfl)
          try simp only [Act.put, List.setIfInBounds_toArray, List.set_cons_zero, List.set_cons_succ]
          refine take_at (i := 9) (v := ?_) 69 rfl rfl (by kernel_rfl) (by kernel_rfl) (by kernel_rfl) (by kernel_rfl) (by kernel_rfl) (by kernel_rfl) (by kernel_rfl) (fun _ _ _ h => h) (Or.inl ⟨by kernel_rfl, ?_⟩) hHeld ?_
          rotate_left
          · intro w hSw; (try dsimp only at hSw); (try obtain ⟨f0, f1⟩ := hSw); go_simp; (try with_reducible rfl)
          try simp only [Act.put, List.setIfInBounds_toArray, List.set_cons_zero, List.set_cons_succ]
          refine take_at (i := 10) (v := ?_) 70 rfl rfl (by kernel_rfl) (by kernel_rfl) (by kernel_rfl) (by kernel_rfl) (by kernel_rfl) (by kernel_rfl) (by kernel_rfl) (fun _ _ _ h => h) (Or.inl ⟨by kernel_rfl, ?_⟩) hHeld ?_
          rotate_left
          · intro w hSw; (try dsimp only at hSw); (try obtain ⟨f0, f1⟩ := hSw); go_simp; (try with_reducible rfl)
          try simp only [Act.put, List.setIfInBounds_toArray, List.set_cons_zero, List.set_cons_succ]
          refine Ord.wpAnyU_one (i := 11) (by kernel_rfl) rfl (fun K hK => ?_)
          rw [if_pos (by rfl)]
          refine one_upd (.tmp 63) (.tmp 64) (.tmp 70) rfl rfl m L _ (by omega) rfl HO3.out ⟨fn.toArray⟩ rfl hfn' (fb.take fs) fs rfl ?_
          intro w5 ho5 hg5
          have HP5 : Hid (PD w5 g m L { d with dead := false, last := 0, files := midC keep d.files (i + 1) }) := by
            have hq := HE.out (by rw [hN.out]; exact hN0)
            rw [hN.out] at hq
            have ho6 := PD.put (w := (wr.alloc (.cells #[.string ⟨fb.toArray⟩, .int .i64 fs] 82)).drew) (w' := w5) (d := { d with dead := false, last := 0, files := midC keep d.files i }) ⟨World.rowIs.drew HPb.out.row, HO3.out, HPb.out.ne⟩ ho5 hg5
            rw [show (ByteArray.mk fn.toArray).data.toList = fn from List.toList_toArray, hq] at ho6
            exact ho6.upto (by have hq2 := mid_len keep d.files (i + 1); rw [hL.out] at hq2; exact hq2)
          have HG5 := Lib.hid hg5
          clear ho5 hg5
          refine hK.out _ _ (fun h => by cases h) ?_
          clear hK K
          try simp only [Act.put, List.setIfInBounds_toArray, List.set_cons_zero, List.set_cons_succ]
          refine Ord.wpAnyU_done (by kernel_rfl) ?_ _
          go_wp2
          go_roundw
          case rel =>
            have hx := HXb.out.trans (Bx.grown (a := (wr.alloc (.cells #[.string ⟨fb.toArray⟩, .int .i64 fs] 82))) ⟨HG5.out.os, HG5.out.tape, HG5.out.output, HG5.out.size, HG5.out.block⟩ fun k e => Or.inr (Option.some.inj e).symm)
            exact ⟨i + 1, by omega, by go_num, HP5.out, HBr.out.trans hx, HBr3.out.trans hx⟩
          case measure => simp [intOf]; omega
    · have eiL : i = L := by omega
      subst eiL
      have di : decide ((i : Int) < (i : Int)) = false := decide_eq_false (by omega)
      go_wp2
      go_ret
      refine ⟨rfl, ?_, HBr.out⟩
      rw [← hD.out]
      have := HPr.out
      rw [← hL.out, mid_all, hL.out] at this
      exact this

end Dsk
end Go.Proofs.Yteaikleofboknaa
end
section
namespace Go.Proofs.Yteaikleofboknaa
open Go.RowKit Go.Great Go.Maps
namespace Dsk
/-- A disk that nobody made. -/
def NoD (w : World) (p : Value) : Prop := ∀ W, Below w.heap.size w W → Calls Try.prog 43 #[p] W fun e w' => e = .returned (.bool false) ∧ W = w'
theorem NoD.below {w w' : World} {p : Value} (h : NoD w p) (hb : Below w.heap.size w w') : NoD w' p := fun W hW => h W (below2 hb hW)
theorem noD_nil (w : World) : NoD w (.pointer none) := fun W _ => given_nil W
theorem noD_zero (w : World) (g : Nat) (hg : g < w.heap.size) (h : w.cell? ⟨g, 0, none⟩ = some (.map none)) : NoD w (.pointer (some ⟨g, 0, none⟩)) := fun W hW => given_zero W g ((hW.cell hg).trans h)
set_option maxRecDepth 100000 in
theorem wakes_no (w : World) (p : Value) (h : NoD w p) : Calls Try.prog 45 #[p] w fun e w' => e = .returned (.int .i64 1) ∧ w = w' := by
  have CG := Lib.hid (h w (Below.refl _ _))
  clear h
  go_enter Try.func45, Try.ntmps45
  go_wp2_with (go_at_call 43; (refine CG.out.mono ?_); rintro e w2 ⟨rfl, rfl⟩)
  go_ret
  exact ⟨rfl, rfl⟩
set_option maxRecDepth 100000 in
theorem there_no (w : World) (p : Value) (h : NoD w p) (s : ByteArray) : Calls Try.prog 48 #[p, .string s] w fun e w' => e = .returned (.tuple #[.agg #[.string ⟨#[]⟩, .int .i64 0], .int .i64 1]) ∧ Below w.heap.size w w' := by
  have CW : Hid (∀ W, Below w.heap.size w W → Calls Try.prog 45 #[p] W fun e w' => e = .returned (.int .i64 1) ∧ W = w') := fun W hW => wakes_no W p (h.below hW)
  clear h
  go_enter Try.func48, Try.ntmps48
  go_wp2_with (go_at_call 45; (refine (CW.out _ (below_al (Below.refl _ _) _)).mono ?_); rintro e w2 ⟨rfl, rfl⟩)
  refine bodyPost_ret (v := .tuple #[.agg #[.string ⟨#[]⟩, .int .i64 0], .int .i64 1]) (ret_file rfl _ _ w.heap.size _ _ _ rfl rfl ?_) rfl ⟨rfl, ?_⟩
  · exact heap_alloc_new w _
  · exact below_al (Below.refl _ _) _
set_option maxRecDepth 100000 in
theorem append_no (w : World) (p : Value) (h : NoD w p) (s t : ByteArray) : Calls Try.prog 32 #[p, .string s, .string t] w fun e w' => e = .returned (.int .i64 1) ∧ w = w' := by
  have CW := Lib.hid (wakes_no w p h)
  clear h
  go_enter Try.func32, Try.ntmps32
  go_wp2_with (go_at_call 45; (refine CW.out.mono ?_); rintro e w2 ⟨rfl, rfl⟩)
  go_ret
  exact ⟨rfl, rfl⟩
set_option maxRecDepth 100000 in
theorem rename_no (w : World) (p : Value) (h : NoD w p) (s t : ByteArray) : Calls Try.prog 41 #[p, .string s, .string t] w fun e w' => e = .returned (.int .i64 1) ∧ w = w' := by
  have CW := Lib.hid (wakes_no w p h)
  clear h
  go_enter Try.func41, Try.ntmps41
  go_wp2_with (go_at_call 45; (refine CW.out.mono ?_); rintro e w2 ⟨rfl, rfl⟩)
  go_ret
  exact ⟨rfl, rfl⟩
set_option maxRecDepth 100000 in
theorem used_no (w : World) (p : Value) (h : NoD w p) : Calls Try.prog 60 #[p] w fun e w' => e = .returned (.int .i64 0) ∧ w = w' := by
  have CW := Lib.hid (wakes_no w p h)
  clear h
  go_enter Try.func60, Try.ntmps60
  go_wp2_with (go_at_call 45; (refine CW.out.mono ?_); rintro e w2 ⟨rfl, rfl⟩)
  go_ret
  exact ⟨rfl, rfl⟩
set_option maxRecDepth 100000 in
theorem names_no (w : World) (p : Value) (h : NoD w p) : Calls Try.prog 20 #[p] w fun e w' => e = .returned (.slice none 0 0) ∧ w = w' := by
  have CW := Lib.hid (wakes_no w p h)
  clear h
  go_enter Try.func20, Try.ntmps20
  go_wp2_with (go_at_call 45; (refine CW.out.mono ?_); rintro e w2 ⟨rfl, rfl⟩)
  go_ret
  exact ⟨rfl, rfl⟩
set_option maxRecDepth 100000 in
theorem dead_no (w : World) (p : Value) (h : NoD w p) : Calls Try.prog 21 #[p] w fun e w' => e = .returned (.bool true) ∧ w = w' := by
  have CG := Lib.hid (h w (Below.refl _ _))
  clear h
  go_enter Try.func21, Try.ntmps21
  go_wp2_with (go_at_call 43; (refine CG.out.mono ?_); rintro e w2 ⟨rfl, rfl⟩)
  go_ret
  exact ⟨rfl, rfl⟩
set_option maxRecDepth 100000 in
theorem crash_no (w : World) (p : Value) (h : NoD w p) (kv : Value) : Calls Try.prog 44 #[p, kv] w fun e w' => e = .returned (.int .i64 1) ∧ w = w' := by
  have CG := Lib.hid (h w (Below.refl _ _))
  clear h
  go_enter Try.func44, Try.ntmps44
  go_wp2_with (go_at_call 43; (refine CG.out.mono ?_); rintro e w2 ⟨rfl, rfl⟩)
  go_ret
  exact ⟨rfl, rfl⟩
set_option maxRecDepth 100000 in
theorem fuse_no (w : World) (p : Value) (h : NoD w p) (z : Int) (b : Bool) : Calls Try.prog 16 #[p, .int .i64 z, .bool b] w fun e w' => e = .returned (.tuple #[]) ∧ w = w' := by
  have CG := Lib.hid (h w (Below.refl _ _))
  clear h
  go_enter Try.func16, Try.ntmps16
  go_wp2_with (go_at_call 43; (refine CG.out.mono ?_); rintro e w2 ⟨rfl, rfl⟩)
  go_end0
  exact ⟨rfl, rfl⟩
set_option maxRecDepth 100000 in
theorem sync_no (w : World) (p : Value) (h : NoD w p) (s : ByteArray) : Calls Try.prog 34 #[p, .string s] w fun e w' => e = .returned (.int .i64 1) ∧ Below w.heap.size w w' := by
  have CT := Lib.hid (there_no w p h s)
  clear h
  go_enter Try.func34, Try.ntmps34
  go_wp2_with (go_at_call 48; (refine CT.out.mono ?_); rintro e w2 ⟨rfl, hb2⟩; have HB2 := Lib.hid hb2; clear hb2)
  go_ret
  exact ⟨rfl, below_al HB2.out _⟩
set_option maxRecDepth 100000 in
theorem cut_no (w : World) (p : Value) (h : NoD w p) (s : ByteArray) (z : Int) : Calls Try.prog 27 #[p, .string s, .int .i64 z] w fun e w' => e = .returned (.int .i64 1) ∧ Below w.heap.size w w' := by
  have CT := Lib.hid (there_no w p h s)
  clear h
  go_enter Try.func27, Try.ntmps27
  go_wp2_with (go_at_call 48; (refine CT.out.mono ?_); rintro e w2 ⟨rfl, hb2⟩; have HB2 := Lib.hid hb2; clear hb2)
  go_ret
  exact ⟨rfl, below_al HB2.out _⟩
set_option maxRecDepth 100000 in
theorem read_no (w : World) (p : Value) (h : NoD w p) (s : ByteArray) : Calls Try.prog 22 #[p, .string s] w fun e w' => e = .returned (.tuple #[.string ⟨#[]⟩, .int .i64 1]) ∧ Below w.heap.size w w' := by
  have CT := Lib.hid (there_no w p h s)
  clear h
  go_enter Try.func22, Try.ntmps22
  go_wp2_with (go_at_call 48; (refine CT.out.mono ?_); rintro e w2 ⟨rfl, hb2⟩; have HB2 := Lib.hid hb2; clear hb2)
  go_ret2
  exact ⟨rfl, below_al HB2.out _⟩
end Dsk
end Go.Proofs.Yteaikleofboknaa
end
section
namespace Go.Proofs.Yteaikleofboknaa
open Go.RowKit Go.Great Go.Maps
namespace Dsk
theorem bytes_ins (f : FileIn) : ∀ l : List FileIn, bytesOf (ins f l) = f.by'.length + bytesOf l ∧ (ins f l).length = l.length + 1
  | [] => ⟨by simp [ins, bytesOf], rfl⟩
  | x :: l => by
    obtain ⟨h1, h2⟩ := bytes_ins f l
    unfold ins
    split
    · exact ⟨by simp [bytesOf], rfl⟩
    · refine ⟨?_, by simp [h2]⟩
      unfold bytesOf at h1 ⊢
      rw [List.map_cons, List.sum_cons, h1, List.map_cons, List.sum_cons]
      omega
theorem bytes_del (s : List UInt8) : ∀ l : List FileIn, bytesOf (del s l) ≤ bytesOf l ∧ (del s l).length ≤ l.length
  | [] => ⟨Nat.le_refl _, Nat.le_refl _⟩
  | x :: l => by
    obtain ⟨h1, h2⟩ := bytes_del s l
    unfold del bytesOf at *
    rw [List.filter_cons]
    split
    · simp only [List.map_cons, List.sum_cons, List.length_cons]
      omega
    · simp only [List.map_cons, List.sum_cons, List.length_cons]
      omega
theorem bytes_found {s : List UInt8} {f : FileIn} : ∀ {l : List FileIn}, find s l = some f → bytesOf (del s l) + f.by'.length ≤ bytesOf l ∧ (del s l).length + 1 ≤ l.length
  | [], h => by cases h
  | x :: l, h => by
    have hd := bytes_del s l
    unfold find at h
    rw [List.find?_cons] at h
    unfold del bytesOf at *
    by_cases hx : x.nm = s
    · rw [decide_eq_true hx] at h
      obtain rfl := Option.some.inj h
      rw [List.filter_cons_of_neg (by simp [hx])]
      simp only [List.map_cons, List.sum_cons, List.length_cons]
      omega
    · rw [decide_eq_false hx] at h
      have ih := bytes_found (s := s) (f := f) (l := l) h
      unfold del bytesOf at ih
      rw [List.filter_cons_of_pos (by simp [hx])]
      simp only [List.map_cons, List.sum_cons, List.length_cons]
      omega
theorem bytes_put (f : FileIn) (l : List FileIn) : bytesOf (putF f l) = f.by'.length + bytesOf (del f.nm l) ∧ (putF f l).length = (del f.nm l).length + 1 := bytes_ins f _
theorem bytes_crash (keep : List Int) : ∀ (l : List FileIn) (i : Nat), bytesOf (crashF keep i l) ≤ bytesOf l
  | [], i => Nat.le_refl _
  | f :: l, i => by
    have ih := bytes_crash keep l (i + 1)
    rw [crash_cons]
    unfold bytesOf at *
    split
    · simp only [List.map_cons, List.sum_cons]
      omega
    · simp only [List.map_cons, List.sum_cons, List.length_take]
      omega
theorem bytes_mem {f : FileIn} : ∀ {l : List FileIn}, f ∈ l → f.by'.length ≤ bytesOf l
  | [], h => by cases h
  | x :: l, h => by
    unfold bytesOf
    rw [List.map_cons, List.sum_cons]
    rcases List.mem_cons.1 h with rfl | h
    · omega
    · have := bytes_mem h
      unfold bytesOf at this
      omega
/-- How large a disk is. -/
structure Siz (d : DkIn) (k : Nat) : Prop where
  ok : Dok d
  len : d.files.length ≤ k
  by' : bytesOf d.files ≤ 200 * k
  ops : d.ops ≤ k
theorem Siz.lens {d : DkIn} {k : Nat} (h : Siz d k) (hk : k ≤ 1000) : (∀ f ∈ d.files, f.by'.length ≤ 1000000000) ∧ bytesOf d.files ≤ 1000000000 ∧ d.files.length < 100000 := by
  have h1 := h.by'
  have h2 := h.len
  refine ⟨fun f hf => ?_, by omega, by omega⟩
  have := bytes_mem hf
  omega
theorem Siz.mono {d : DkIn} {k k' : Nat} (h : Siz d k) (hk : k ≤ k') : Siz d k' := ⟨h.ok, Nat.le_trans h.len hk, by have := h.by'; omega, by have := h.ops; omega⟩
theorem op_ops (d : DkIn) : (opV d).2.2.ops = d.ops + 1 := by
  unfold opV
  dsimp only
  split
  · rfl
  · split <;> rfl
/-- An operation that turns the files so far. -/
theorem siz_op {d : DkIn} {k : Nat} (h : Siz d k) (hk : k ≤ 1000) {l : List FileIn} (hf : Fok l) (hl : l.length ≤ k + 1) (hb : bytesOf l ≤ 200 * k + 200) : Siz { (opV d).2.2 with files := l } (k + 1) := by
  have ho := h.ok.op (by have := h.ops; omega)
  refine ⟨⟨hf, ho.room, ho.ops, ho.last⟩, hl, by show bytesOf l ≤ _; omega, ?_⟩
  show (opV d).2.2.ops ≤ _
  rw [op_ops]
  have := h.ops
  omega
theorem siz_op0 {d : DkIn} {k : Nat} (h : Siz d k) (hk : k ≤ 1000) : Siz (opV d).2.2 (k + 1) := by
  have := siz_op h hk h.ok.fok (by have := h.len; omega) (by have := h.by'; omega)
  have e : ({ (opV d).2.2 with files := d.files } : DkIn) = (opV d).2.2 := by rw [← op_files d]
  rwa [e] at this
theorem siz_append {d : DkIn} {k : Nat} (h : Siz d k) (hk : k ≤ 1000) (s b : List UInt8) (hb : b.length ≤ 200) : Siz (appendV d s b).2 (k + 1) := by
  have hF := append_fok h.ok.fok s b
  unfold appendV at hF ⊢
  split
  · exact h.mono (by omega)
  · split
    · exact h.mono (by omega)
    · split
      · exact h.mono (by omega)
      · rename_i h1 h2 h3
        rw [if_neg h1, if_neg h2, if_neg h3] at hF
        dsimp only at hF ⊢
        have e : ∀ l : List FileIn, (opV { d with files := l }).2.2 = { (opV d).2.2 with files := l } := fun l => by
          unfold opV
          dsimp only
          split
          · rfl
          · split <;> rfl
        rw [e] at hF ⊢
        obtain ⟨p1, p2⟩ := bytes_put ⟨s, ((find s d.files).getD ⟨s, [], 0⟩).by' ++ b, ((find s d.files).getD ⟨s, [], 0⟩).sure⟩ d.files
        have hl := h.len
        have hby := h.by'
        dsimp only at p1 p2
        rw [List.length_append] at p1
        cases hf : find s d.files with
        | none =>
          rw [hf] at hF p1 p2
          have hd := bytes_del s d.files
          refine siz_op h hk hF (by omega) ?_
          rw [p1]
          show 0 + b.length + _ ≤ _
          omega
        | some f =>
          rw [hf] at hF p1 p2
          have hd := bytes_found hf
          refine siz_op h hk hF (by omega) ?_
          rw [p1]
          show f.by'.length + b.length + _ ≤ _
          omega
theorem siz_sync {d : DkIn} {k : Nat} (h : Siz d k) (hk : k ≤ 1000) (s : List UInt8) : Siz (syncV d s).2 (k + 1) := by
  have hF := (sync_keeps h.ok.fok s (m := s ++ [0]) (fun e => by have := congrArg List.length e; simp at this)).1
  unfold syncV at hF ⊢
  split
  · exact h.mono (by omega)
  · rename_i h1
    rw [if_neg h1] at hF
    cases hf : find s d.files with
    | none => exact h.mono (by omega)
    | some f =>
      rw [hf] at hF
      dsimp only at hF ⊢
      split
      · rename_i h2
        rw [if_pos h2] at hF
        rw [op_files] at hF ⊢
        obtain ⟨p1, p2⟩ := bytes_put ⟨s, f.by', f.by'.length⟩ d.files
        have hd := bytes_found hf
        have hl := h.len
        have hby := h.by'
        refine siz_op h hk hF (by dsimp only at p2; omega) ?_
        dsimp only at p1
        omega
      · exact siz_op0 h hk
theorem siz_cut {d : DkIn} {k : Nat} (h : Siz d k) (hk : k ≤ 1000) (s : List UInt8) (z : Int) : Siz (cutV d s z).2 (k + 1) := by
  have hF := (cut_keeps h.ok.fok s z (m := s ++ [0]) (fun e => by have := congrArg List.length e; simp at this)).1
  unfold cutV at hF ⊢
  split
  · exact h.mono (by omega)
  · rename_i h1
    rw [if_neg h1] at hF
    cases hf : find s d.files with
    | none => exact h.mono (by omega)
    | some f =>
      rw [hf] at hF
      dsimp only at hF ⊢
      split
      · exact h.mono (by omega)
      · rename_i h3
        rw [if_neg h3] at hF
        dsimp only at hF ⊢
        split
        · rename_i h2
          rw [if_pos h2] at hF
          rw [op_files] at hF ⊢
          obtain ⟨p1, p2⟩ := bytes_put ⟨s, f.by'.take z.toNat, min f.sure z.toNat⟩ d.files
          have hd := bytes_found hf
          have hl := h.len
          have hby := h.by'
          refine siz_op h hk hF (by dsimp only at p2; omega) ?_
          dsimp only at p1
          rw [List.length_take] at p1
          omega
        · exact siz_op0 h hk
theorem siz_rename {d : DkIn} {k : Nat} (h : Siz d k) (hk : k ≤ 1000) (s t : List UInt8) : Siz (renameV d s t).2 (k + 1) := by
  have hF := (rename_keeps h.ok.fok s t (m := s ++ t ++ [0]) (fun e => by have := congrArg List.length e; simp at this; try omega) (fun e => by have := congrArg List.length e; simp at this; try omega)).1
  unfold renameV at hF ⊢
  split
  · exact h.mono (by omega)
  · rename_i h1
    rw [if_neg h1] at hF
    split
    · exact h.mono (by omega)
    · rename_i h3
      rw [if_neg h3] at hF
      cases hf : find s d.files with
      | none => exact h.mono (by omega)
      | some f =>
        rw [hf] at hF
        dsimp only at hF ⊢
        split
        · rename_i h2
          rw [if_pos h2] at hF
          rw [op_files] at hF ⊢
          obtain ⟨p1, p2⟩ := bytes_put { f with nm := t } (del s d.files)
          have hd := bytes_found hf
          have hd2 := bytes_del t (del s d.files)
          have hl := h.len
          have hby := h.by'
          refine siz_op h hk hF (by dsimp only at p2; omega) ?_
          dsimp only at p1
          omega
        · exact siz_op0 h hk
/-- What is known of an act's numbers. -/
structure Few (a : ActIn) : Prop where
  name : a.name.length ≤ 40
  arg : a.arg.length ≤ 200
  keep : a.keep.length ≤ 20
  n : a.n ≤ 9223372036854775807
theorem siz_fuse {d : DkIn} {k : Nat} (h : Siz d k) (z : Int) (b : Bool) (hz : z ≤ 9223372036854775807) : Siz (fuseV d z b) k := by
  refine ⟨⟨h.ok.fok, h.ok.room, h.ok.ops, ?_⟩, h.len, h.by', h.ops⟩
  unfold fuseV
  dsimp only
  split <;> omega
theorem siz_crash {d : DkIn} {k : Nat} (h : Siz d k) (keep : List Int) : Siz (crashV d keep) k := by
  refine ⟨⟨h.ok.fok.crash keep, h.ok.room, h.ok.ops, ?_⟩, Nat.le_trans (crash_len keep d.files 0) h.len, Nat.le_trans (bytes_crash keep d.files 0) h.by', h.ops⟩
  show (0 : Int) ≤ 0 ∧ (0 : Int) ≤ _
  omega
theorem siz_do {d : DkIn} {k : Nat} (h : Siz d k) (hk : k ≤ 1000) (a : ActIn) (ha : Few a) : Siz (doV d a).2 (k + 1) := by
  unfold doV
  split
  · exact siz_append h hk _ _ ha.arg
  · split
    · exact siz_sync h hk _
    · split
      · exact siz_cut h hk _ _
      · split
        · exact siz_rename h hk _ _
        · split
          · exact (siz_fuse h _ _ ha.n).mono (by omega)
          · split
            · exact (siz_crash h _).mono (by omega)
            · exact h.mono (by omega)
end Dsk
end Go.Proofs.Yteaikleofboknaa
end
section
namespace Go.Proofs.Yteaikleofboknaa
/-- A number of 32 bits, as a walk holds it. -/
def U (x : BitVec 32) : Int := x.toNat
namespace Crc
theorem U_lo (x : BitVec 32) : 0 ≤ U x := Int.natCast_nonneg _
theorem U_hi (x : BitVec 32) : U x ≤ 4294967295 := by have := x.isLt; unfold U; omega
theorem U_inj {x y : BitVec 32} : (U x == U y) = (x == y) := by
  unfold U; rw [Bool.eq_iff_iff]; simp [← BitVec.toNat_inj]; omega
theorem U_of (n : Nat) (h : n < 4294967296) : ((n : Nat) : Int) = U (BitVec.ofNat 32 n) := by
  unfold U; simp; omega
theorem U_shr1 (x : BitVec 32) : U x / (2 : Int) = U (x >>> 1) := by
  unfold U; rw [BitVec.toNat_ushiftRight, Nat.shiftRight_eq_div_pow]; omega
theorem U_shr4 (x : BitVec 32) : U x / (16 : Int) = U (x >>> 4) := by
  unfold U; rw [BitVec.toNat_ushiftRight, Nat.shiftRight_eq_div_pow]; omega
theorem bits_U (x : BitVec 32) : BitVec.ofInt 32 (U x) = x := by unfold U; simp
theorem wrapU (x : BitVec 32) : IntKind.u32.wrap (x.toNat : Int) = U x := by
  have := x.isLt; unfold U; rw [IntKind.wrap_u32]; omega
theorem and_U (x y : BitVec 32) : bits .and .u32 (U x) (U y) = U (x &&& y) := by
  show IntKind.u32.wrap ((BitVec.ofInt 32 (U x) &&& BitVec.ofInt 32 (U y)).toNat : Int) = _
  rw [bits_U, bits_U, wrapU]
theorem xor_U (x y : BitVec 32) : bits .xor .u32 (U x) (U y) = U (x ^^^ y) := by
  show IntKind.u32.wrap ((BitVec.ofInt 32 (U x) ^^^ BitVec.ofInt 32 (U y)).toNat : Int) = _
  rw [bits_U, bits_U, wrapU]
theorem and_U1 (x : BitVec 32) : bits .and .u32 (U x) 1 = U (x &&& 1#32) := and_U x 1#32
theorem and_U15 (x : BitVec 32) : bits .and .u32 (U x) 15 = U (x &&& 15#32) := and_U x 15#32
def poly : BitVec 32 := 3988292384#32
theorem and_Up (x : BitVec 32) : bits .and .u32 3988292384 (U x) = U (poly &&& x) := and_U poly x
theorem xor_Up (x : BitVec 32) : bits .xor .u32 (U x) 3988292384 = U (x ^^^ poly) := xor_U x poly
theorem neg_U (x : BitVec 32) : -U x % (4294967296 : Int) = U (-x) := by
  have := x.isLt; unfold U; rw [BitVec.toNat_neg]; omega
theorem not_U (x : BitVec 32) : bits .xor .u32 (U x) 4294967295 = U (~~~x) := by
  have e : (4294967295 : Int) = U (BitVec.allOnes 32) := rfl
  rw [e, xor_U, BitVec.xor_allOnes]
/-- One step: shifted down; the polynomial put on it if the lowest bit was 1. -/
def stp (x : BitVec 32) : BitVec 32 := (x >>> 1) ^^^ (poly &&& -(x &&& 1#32))
def stps : Nat → BitVec 32 → BitVec 32
  | 0, x => x
  | n + 1, x => stps n (stp x)
theorem stps_snoc (n : Nat) (x : BitVec 32) : stps (n + 1) x = stp (stps n x) := by
  induction n generalizing x with
  | zero => rfl
  | succ n ih => rw [stps, ih]; rfl
theorem lsb01 (x : BitVec 32) : x &&& 1#32 = 0#32 ∨ x &&& 1#32 = 1#32 := by
  have h : (x &&& 1#32).toNat = x.toNat % 2 := by rw [BitVec.toNat_and]; exact Nat.and_two_pow_sub_one_eq_mod _ 1
  rcases Nat.mod_two_eq_zero_or_one x.toNat with e | e
  · left; apply BitVec.eq_of_toNat_eq; rw [h, e]; rfl
  · right; apply BitVec.eq_of_toNat_eq; rw [h, e]; rfl
theorem stp_even {x : BitVec 32} (h : (U (x &&& 1#32) == 1) = false) : stp x = x >>> 1 := by
  rcases lsb01 x with e | e
  · rw [stp, e]; simp
  · rw [e] at h; exact absurd h (by decide)
theorem stp_odd {x : BitVec 32} (h : (U (x &&& 1#32) == 1) = true) : stp x = (x >>> 1) ^^^ poly := by
  rcases lsb01 x with e | e
  · rw [e] at h; exact absurd h (by decide)
  · rw [stp, e]; rfl
def nib (k : Nat) : BitVec 32 := stps 4 (BitVec.ofNat 32 k)
/-- n numbers of 32 bits as cells. -/
def arrU (n : Nat) (f : Nat → BitVec 32) : Array Value := ((List.range n).map fun i => Value.int .u32 (U (f i))).toArray
theorem arrU_size (n : Nat) (f : Nat → BitVec 32) : (arrU n f).size = n := by simp [arrU]
theorem arrU_get (n : Nat) (f : Nat → BitVec 32) (i : Nat) (h : i < n) : (arrU n f)[i]? = some (Value.int .u32 (U (f i))) := by
  simp [arrU, h]
theorem arrU_one (n : Nat) (f : Nat → BitVec 32) : (arrU n f).all (·.oneCell') = true := by
  simp [arrU, Value.oneCell']
theorem arrU_ext {n : Nat} {f g : Nat → BitVec 32} (h : ∀ i, i < n → f i = g i) : arrU n f = arrU n g := by
  unfold arrU
  congr 1
  apply List.map_congr_left
  intro i hi
  rw [h i (by simpa using hi)]
theorem arrU_set (n : Nat) (f : Nat → BitVec 32) (k : Nat) (v : BitVec 32) : (arrU n f).setIfInBounds k (.int .u32 (U v)) = arrU n (fun i => if i = k then v else f i) := by
  apply Array.ext'
  apply List.ext_getElem?
  intro i
  by_cases hi : i < n
  · have e1 := arrU_get n f i hi
    have e2 := arrU_get n (fun i => if i = k then v else f i) i hi
    simp only [← Array.getElem?_toList] at e1 e2
    rw [e2, Array.toList_setIfInBounds, List.getElem?_set, e1]
    have := arrU_size n f
    by_cases hk : k = i
    · subst hk; simp [this, hi]
    · rw [if_neg hk, if_neg (fun e => hk e.symm)]
  · rw [List.getElem?_eq_none (by simp [arrU_size]; omega), List.getElem?_eq_none (by simp [arrU_size]; omega)]
/-- Filled as far as k, 0 behind. -/
def upTo (f : Nat → BitVec 32) (k i : Nat) : BitVec 32 := if i < k then f i else 0#32
theorem arrU_fill (n : Nat) (f : Nat → BitVec 32) (k : Nat) : (arrU n (upTo f k)).setIfInBounds k (.int .u32 (U (f k))) = arrU n (upTo f (k + 1)) := by
  rw [arrU_set]
  apply arrU_ext
  intro i _
  by_cases h : i = k
  · subst h; simp [upTo]
  · by_cases h1 : i < k
    · simp [upTo, h, h1, show i < k + 1 by omega]
    · simp [upTo, h, h1, show ¬ i < k + 1 by omega]
theorem arrU_full (n : Nat) (f : Nat → BitVec 32) : arrU n (upTo f n) = arrU n f :=
  arrU_ext fun i h => by simp [upTo, h]
theorem arrU_todo (n : Nat) (f : Nat → BitVec 32) (k : Nat) (h : k < n) : (arrU n (upTo f k))[k]? = some (.int .u32 0) := by
  rw [arrU_get n _ k h]; simp [upTo]; rfl
/-- A byte comes to a number. -/
def byt (n : BitVec 32) (b : UInt8) : BitVec 32 := stps 8 (n ^^^ BitVec.ofNat 32 b.toNat)
def run (n : BitVec 32) (l : List UInt8) : BitVec 32 := l.foldl byt n
def more (sum : BitVec 32) (l : List UInt8) : BitVec 32 := ~~~ run (~~~ sum) l
def sum (l : List UInt8) : BitVec 32 := more 0#32 l
theorem run_snoc (n : BitVec 32) (l : List UInt8) (b : UInt8) : run n (l ++ [b]) = byt (run n l) b := by simp [run]
theorem run_take (n : BitVec 32) (s : ByteArray) (k : Nat) (h : k < s.size) : run n (s.data.toList.take (k + 1)) = byt (run n (s.data.toList.take k)) s[k] := by
  rw [List.take_succ_eq_append_getElem (by simpa using h), run_snoc]; rfl
theorem U_byte (b : UInt8) : ((b.toNat : Nat) : Int) = U (BitVec.ofNat 32 b.toNat) := U_of _ (by have := b.toNat_lt; omega)
theorem not_Um (x : BitVec 32) : bits .xor .u32 IntKind.u32.max (U x) = U (~~~x) := by
  have e : IntKind.u32.max = U (BitVec.allOnes 32) := rfl
  rw [e, xor_U, BitVec.allOnes_xor]
theorem getD_byte (s : ByteArray) (k : Nat) (h : k < s.size) : s.data.toList.getD k 0 = s[k] := by
  have h' : k < s.data.toList.length := by simpa using h
  rw [List.getD_eq_getElem?_getD, List.getElem?_eq_getElem h']
  rfl
theorem U_mod (x : BitVec 32) : U x % (4294967296 : Int) = U x := by have := U_lo x; have := U_hi x; omega
theorem lsb_iff (x : BitVec 32) : x &&& 1#32 = if x.getLsbD 0 then 1#32 else 0#32 := by
  have h : (x &&& 1#32).getLsbD 0 = x.getLsbD 0 := by simp
  rcases lsb01 x with e | e
  · rw [e] at h; rw [← h, e]; rfl
  · rw [e] at h; rw [← h, e]; rfl
theorem stp_eq (x : BitVec 32) : stp x = (x >>> 1) ^^^ (if x.getLsbD 0 then poly else 0#32) := by
  rw [stp, lsb_iff]
  cases x.getLsbD 0 <;> rfl
theorem xor4 (a b c d : BitVec 32) : (a ^^^ b) ^^^ (c ^^^ d) = (a ^^^ c) ^^^ (b ^^^ d) := by
  rw [BitVec.xor_assoc, ← BitVec.xor_assoc b, BitVec.xor_comm b c, BitVec.xor_assoc c, ← BitVec.xor_assoc]
theorem stp_xor (x y : BitVec 32) : stp (x ^^^ y) = stp x ^^^ stp y := by
  rw [stp_eq, stp_eq, stp_eq, BitVec.ushiftRight_xor_distrib, xor4]
  congr 1
  rw [BitVec.getLsbD_xor]
  cases x.getLsbD 0 <;> cases y.getLsbD 0 <;> simp
theorem stps_xor (n : Nat) (x y : BitVec 32) : stps n (x ^^^ y) = stps n x ^^^ stps n y := by
  induction n generalizing x y with
  | zero => rfl
  | succ n ih => rw [stps, stps, stps, stp_xor, ih]
theorem stps_add (a b : Nat) (x : BitVec 32) : stps (a + b) x = stps b (stps a x) := by
  induction a generalizing x with
  | zero => rw [Nat.zero_add]; rfl
  | succ a ih => rw [Nat.add_right_comm, stps, stps, ih]
theorem stp_low {x : BitVec 32} (h : x.getLsbD 0 = false) : stp x = x >>> 1 := by rw [stp_eq, h]; simp
/-- Numbers whose lowest k bits are 0 are only shifted by k steps. -/
theorem stps_low (k : Nat) (x : BitVec 32) (h : ∀ i, i < k → x.getLsbD i = false) : stps k x = x >>> k := by
  induction k generalizing x with
  | zero => rw [stps, BitVec.ushiftRight_zero]
  | succ k ih =>
    rw [stps, stp_low (h 0 (by omega)), ih]
    · rw [← BitVec.shiftRight_add, Nat.add_comm]
    · intro i hi
      rw [BitVec.getLsbD_ushiftRight]
      exact h _ (by omega)
def nibOf (y : BitVec 32) : BitVec 32 := nib (y &&& 15#32).toNat
theorem and15_lt (y : BitVec 32) : (y &&& 15#32).toNat < 16 := by
  rw [BitVec.toNat_and]
  have : (15#32 : BitVec 32).toNat = 2 ^ 4 - 1 := rfl
  rw [this, Nat.and_two_pow_sub_one_eq_mod]
  omega
theorem U_and15 (y : BitVec 32) : 0 ≤ U (y &&& 15#32) ∧ U (y &&& 15#32) ≤ 15 := by have := and15_lt y; unfold U; omega
theorem split15 (y : BitVec 32) : y = (y &&& 15#32) ^^^ (y &&& ~~~ 15#32) := by
  apply BitVec.eq_of_getLsbD_eq
  intro i hi
  simp only [BitVec.getLsbD_xor, BitVec.getLsbD_and, BitVec.getLsbD_not, hi, decide_true, Bool.true_and]
  cases y.getLsbD i <;> cases (15#32).getLsbD i <;> rfl
/-- Four steps by the table. -/
theorem stps_nib (y : BitVec 32) : stps 4 y = nibOf y ^^^ (y >>> 4) := by
  conv => lhs; rw [split15 y, stps_xor]
  congr 1
  · rw [nibOf, nib, BitVec.ofNat_toNat, BitVec.setWidth_eq]
  · rw [stps_low]
    · apply BitVec.eq_of_getLsbD_eq
      intro i hi
      simp only [BitVec.getLsbD_ushiftRight, BitVec.getLsbD_and, BitVec.getLsbD_not]
      by_cases h : 4 + i < 32
      · have : (15#32).getLsbD (4 + i) = false := by
          rw [BitVec.getLsbD_ofNat]
          have : Nat.testBit 15 (4 + i) = false := by
            apply Nat.testBit_lt_two_pow
            exact Nat.lt_of_lt_of_le (by decide : 15 < 2 ^ 4) (Nat.pow_le_pow_right (by decide) (by omega))
          rw [this, Bool.and_false]
        simp only [this, h, decide_true, Bool.not_false, Bool.and_true]
      · simp [BitVec.getLsbD_of_ge y (4 + i) (by omega)]
    · intro i hi
      rw [BitVec.getLsbD_and, BitVec.getLsbD_not]
      match i, hi with
      | 0, _ => simp
      | 1, _ => simp
      | 2, _ => simp
      | 3, _ => simp
theorem stps_nib2 (y : BitVec 32) : stps 8 y = nibOf (nibOf y ^^^ (y >>> 4)) ^^^ ((nibOf y ^^^ (y >>> 4)) >>> 4) := by
  rw [show (8 : Nat) = 4 + 4 from rfl, stps_add, stps_nib y, stps_nib]
theorem U_shr (x : BitVec 32) (k : Nat) : U x / (2 : Int) ^ k = U (x >>> k) := by
  unfold U
  rw [BitVec.toNat_ushiftRight, Nat.shiftRight_eq_div_pow, Int.natCast_ediv, Int.natCast_pow]; rfl
theorem bitTest (n : BitVec 32) (k : Nat) : (bits .and .u32 (U n / (2 : Int) ^ k) 1 == 1) = n.getLsbD k := by
  rw [U_shr, and_U1, lsb_iff, BitVec.getLsbD_ushiftRight, Nat.add_zero]
  cases n.getLsbD k <;> rfl
theorem i64_and1 (n : Int) : bits .and .i64 n 1 = n % 2 := by
  show IntKind.i64.wrap ((BitVec.ofInt 64 n &&& BitVec.ofInt 64 1).toNat : Int) = _
  rw [BitVec.toNat_and, show (BitVec.ofInt 64 1).toNat = 2 ^ 1 - 1 from rfl, Nat.and_two_pow_sub_one_eq_mod, BitVec.toNat_ofInt, IntKind.wrap_i64]
  have h : ((n % ((2 ^ 64 : Nat) : Int)).toNat : Int) = n % ((2 ^ 64 : Nat) : Int) := Int.toNat_of_nonneg (Int.emod_nonneg _ (by decide))
  have h2 : (((n % ((2 ^ 64 : Nat) : Int)).toNat % 2 ^ 1 : Nat) : Int) = n % 2 := by
    rw [Int.natCast_emod, h]
    omega
  rw [h2]
  omega
end Crc
attribute [go_sem] Crc.U_mod Crc.not_Um Crc.U_shr1 Crc.U_shr4 Crc.and_U Crc.xor_U Crc.and_U1 Crc.and_U15 Crc.and_Up Crc.xor_Up Crc.neg_U
end Go.Proofs.Yteaikleofboknaa
end
