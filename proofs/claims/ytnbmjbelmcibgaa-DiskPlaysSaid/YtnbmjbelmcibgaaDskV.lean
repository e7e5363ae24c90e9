/- What is cut: the walk. -/
import Derived.Test.YtnbmjbelmcibgaaDskU
import Derived.Deep.Cut
set_option linter.unusedSimpArgs false
set_option linter.unusedVariables false
namespace Go.Proofs.Ytnbmjbelmcibgaa
open Go.RowKit Go.Great Go.Maps
namespace Dsk
set_option maxRecDepth 100000 in
set_option maxHeartbeats 4000000 in
theorem cut_any (w : World) (g m n : Nat) (d : DkIn) (h : PD w g m n d) (hd : Dok d) (hn : n < 1000000) (s : ByteArray) (hs : s.size ≤ 1000000000) (z : Int) (hl : ∀ f ∈ d.files, f.by'.length ≤ 1000000000) : Calls Try.prog 31 #[.pointer (some ⟨g, 0, none⟩), .string s, .int .i64 z] w fun e w' => e = .returned (.int .i64 (cutV d s.data.toList z).1) ∧ Hid (PD w' g m (n + 1) (cutV d s.data.toList z).2) ∧ Hid (Bx g m w w') := by
  have CT : Hid (Calls Try.prog 29 #[.pointer (some ⟨g, 0, none⟩), .string s] w fun e w' => e = .returned (.tuple #[.agg #[.string ⟨(thereV d s.data.toList).1.by'.toArray⟩, .int .i64 (thereV d s.data.toList).1.sure], .int .i64 (thereV d s.data.toList).2]) ∧ Below w.heap.size w w') := there_any w g m n d h s hs
  have CB : Hid (∀ W, PD W g m n d → Calls Try.prog 28 #[.pointer (some ⟨g, 0, none⟩)] W fun e w' => e = .returned (.tuple #[.bool (opV d).1, .int .i64 (opV d).2.1]) ∧ Hid (PD w' g m n (opV d).2.2) ∧ Hid (W.grownBy w' (some g))) := fun W h => begins_any W g m n d h hd
  have HP := Lib.hid h
  have up : ∀ {W : World} {d : DkIn}, PD W g m n d → PD W g m (n + 1) d := fun h => ⟨h.row, h.own.mono (by omega), h.ne⟩
  clear h
  by_cases ht : (thereV d s.data.toList).2 = 0
  · obtain ⟨f, hf, e1, e2⟩ : ∃ f, find s.data.toList d.files = some f ∧ thereV d s.data.toList = (f, 0) ∧ d.dead = false := by
      unfold thereV at ht ⊢
      cases hdd : d.dead with
      | true => rw [hdd] at ht; cases ht
      | false =>
        cases hff : find s.data.toList d.files with
        | none => rw [hdd, hff] at ht; cases ht
        | some f => exact ⟨f, rfl, rfl, rfl⟩
    have hfl : f.by'.length ≤ 1000000000 := hl f ((find_some hd.fok.rise _ f).1 hf).1
    have hsz : (ByteArray.mk f.by'.toArray).size = f.by'.length := by simp [ByteArray.size]
    by_cases hz : z < 0 ∨ (f.by'.length : Int) < z
    · have e3 : cutV d s.data.toList z = (1, d) := by
        unfold cutV
        rw [e2, if_neg (by decide), hf]
        exact if_pos hz
      rw [e3]
      rw [e1] at CT
      clear e3 e1 ht hf
      by_cases h0 : z < 0
      · have d0 : decide (z < 0) = true := decide_eq_true h0
        go_enter Try.func31, Try.ntmps31
        go_wp2_with (first
          | (go_at_call 29; (with_reducible refine CT.out.mono ?_); rintro e w1 ⟨rfl, hb1⟩; have HB1 := Lib.hid hb1; have HP2 := Lib.hid ((HP.out.below hb1).below (below_al (Below.refl w1.heap.size w1) (.cells #[.string ⟨f.by'.toArray⟩, .int .i64 f.sure] 63))); have hc : (w1.alloc (.cells #[.string ⟨f.by'.toArray⟩, .int .i64 f.sure] 63)).cell? ⟨w1.heap.size, 0, none⟩ = some (.string ⟨f.by'.toArray⟩) := (by rw [World.cell?_alloc_at _ _ _ _ (by simp)]; rfl); have hmw := HP.out.lt; have hsz1 : w.heap.size ≤ w1.heap.size := HB1.out.size; obtain ⟨hc, hcs⟩ : _ ∧ (w1.alloc (.cells #[.string ⟨f.by'.toArray⟩, .int .i64 f.sure] 63)).cell? ⟨w1.heap.size, 1, none⟩ = some (.int .i64 f.sure) := ⟨hc, (by rw [World.cell?_alloc_at _ _ _ _ (by simp)]; rfl)⟩; clear hb1))
        go_ret
        exact ⟨rfl, up HP2.out, Bx.below (below_al HB1.out _)⟩
      · have d0 : decide (z < 0) = false := decide_eq_false h0
        have h1 : (f.by'.length : Int) < z := hz.resolve_left h0
        have d1 : decide ((f.by'.length : Int) < z) = true := decide_eq_true h1
        go_enter Try.func31, Try.ntmps31
        go_wp2_with (first
          | (go_at_call 29; (with_reducible refine CT.out.mono ?_); rintro e w1 ⟨rfl, hb1⟩; have HB1 := Lib.hid hb1; have HP2 := Lib.hid ((HP.out.below hb1).below (below_al (Below.refl w1.heap.size w1) (.cells #[.string ⟨f.by'.toArray⟩, .int .i64 f.sure] 63))); have hc : (w1.alloc (.cells #[.string ⟨f.by'.toArray⟩, .int .i64 f.sure] 63)).cell? ⟨w1.heap.size, 0, none⟩ = some (.string ⟨f.by'.toArray⟩) := (by rw [World.cell?_alloc_at _ _ _ _ (by simp)]; rfl); have hmw := HP.out.lt; have hsz1 : w.heap.size ≤ w1.heap.size := HB1.out.size; obtain ⟨hc, hcs⟩ : _ ∧ (w1.alloc (.cells #[.string ⟨f.by'.toArray⟩, .int .i64 f.sure] 63)).cell? ⟨w1.heap.size, 1, none⟩ = some (.int .i64 f.sure) := ⟨hc, (by rw [World.cell?_alloc_at _ _ _ _ (by simp)]; rfl)⟩; clear hb1))
        go_ret
        exact ⟨rfl, up HP2.out, Bx.below (below_al HB1.out _)⟩
    · obtain ⟨N, rfl⟩ : ∃ N : Nat, z = N := ⟨z.toNat, by omega⟩
      have hN : N ≤ f.by'.length := by omega
      have e3 : cutV d s.data.toList N = ((opV d).2.1, if (opV d).1 then { (opV d).2.2 with files := putF ⟨s.data.toList, f.by'.take N, min f.sure N⟩ (opV d).2.2.files } else (opV d).2.2) := by
        unfold cutV
        rw [e2, if_neg (by decide), hf]
        dsimp only
        rw [if_neg hz, Int.toNat_natCast]
      rw [e3]
      rw [e1] at CT
      have h0 : ¬ (N : Int) < 0 := by omega
      have d0 : decide ((N : Int) < 0) = false := decide_eq_false h0
      have h1 : ¬ (f.by'.length : Int) < (N : Int) := by omega
      have d1 : decide ((f.by'.length : Int) < (N : Int)) = false := decide_eq_false h1
      have hN1 : (N : Int) ≤ (f.by'.length : Int) := by omega
      have hN0 : (0 : Int) ≤ (N : Int) := by omega
      have qx : (ByteArray.mk f.by'.toArray).extract 0 N = ⟨(f.by'.take N).toArray⟩ := by
        apply ByteArray.ext
        simp [ByteArray.extract, ByteArray.copySlice]
      have qm : min (f.sure : Int) (N : Int) = ((min f.sure N : Nat) : Int) := by omega
      clear e3 e1 ht hf hz
      obtain ⟨r, hr⟩ : ∃ r, Hid (opV d = r) := ⟨_, rfl⟩
      rw [hr.out] at CB ⊢
      clear hr
      obtain ⟨r1, r2, r3⟩ := r
      dsimp only at CB ⊢
      cases r1 with
      | true =>
        rw [if_pos rfl]
        go_enter Try.func31, Try.ntmps31
        go_upto_region 8 with (first
        | (go_at_call 29; (with_reducible refine CT.out.mono ?_); rintro e w1 ⟨rfl, hb1⟩; have HB1 := Lib.hid hb1; have HP2 := Lib.hid ((HP.out.below hb1).below (below_al (Below.refl w1.heap.size w1) (.cells #[.string ⟨f.by'.toArray⟩, .int .i64 f.sure] 63))); have hc : (w1.alloc (.cells #[.string ⟨f.by'.toArray⟩, .int .i64 f.sure] 63)).cell? ⟨w1.heap.size, 0, none⟩ = some (.string ⟨f.by'.toArray⟩) := (by rw [World.cell?_alloc_at _ _ _ _ (by simp)]; rfl); have hmw := HP.out.lt; have hsz1 : w.heap.size ≤ w1.heap.size := HB1.out.size; obtain ⟨hc, hcs⟩ : _ ∧ (w1.alloc (.cells #[.string ⟨f.by'.toArray⟩, .int .i64 f.sure] 63)).cell? ⟨w1.heap.size, 1, none⟩ = some (.int .i64 f.sure) := ⟨hc, (by rw [World.cell?_alloc_at _ _ _ _ (by simp)]; rfl)⟩; clear hb1)
        | (go_at_call 28; (refine (CB.out _ HP2.out).mono ?_); rintro e w3 ⟨rfl, HP3, HG3⟩))
        have hgn : g ≠ w1.heap.size := by omega
        have hc3 : w3.cell? ⟨w1.heap.size, 0, none⟩ = some (.string ⟨f.by'.toArray⟩) := by
          unfold World.cell? at hc ⊢
          rw [HG3.out.block w1.heap.size (by simp) (fun e => hgn (Option.some.inj e).symm)]
          exact hc
        have hd3 : w3.cell? ⟨w1.heap.size, 1, none⟩ = some (.int .i64 f.sure) := by
          unfold World.cell? at hcs ⊢
          rw [HG3.out.block w1.heap.size (by simp) (fun e => hgn (Option.some.inj e).symm)]
          exact hcs
        obtain ⟨c0, -⟩ := HP3.out.cells
        have hHeld : w3.drew.cell? ⟨g, 0, none⟩ = some (.map (some m)) ∧ w3.drew.cell? ⟨w1.heap.size, 0, none⟩ = some (.string ⟨f.by'.toArray⟩) ∧ w3.drew.cell? ⟨w1.heap.size, 1, none⟩ = some (.int .i64 f.sure) := ⟨c0, hc3, hd3⟩
        have HO3 : Hid (w3.drew.ownsMap Try.prog 9 fileElem m n (datum r3.files)) := HP3.out.own.drew
        clear c0 hc hc3 hd3 hcs
        refine Ord.wp_region_U (fun W' => W'.cell? ⟨g, 0, none⟩ = some (.map (some m)) ∧ W'.cell? ⟨w1.heap.size, 0, none⟩ = some (.string ⟨f.by'.toArray⟩) ∧ W'.cell? ⟨w1.heap.size, 1, none⟩ = some (.int .i64 f.sure)) [14] (by kernel_rfl) ?_
        refine take_at (i := 0) (v := ?_) 36 rfl rfl (by kernel_rfl) (by kernel_rfl) (by kernel_rfl) (by kernel_rfl) (by kernel_rfl) (by kernel_rfl) (by kernel_rfl) (fun _ _ _ h => h) (Or.inl ⟨by kernel_rfl, ?_⟩) hHeld ?_
        rotate_left
        · intro w hSw; (try dsimp only at hSw); (try obtain ⟨f0, f1, f2⟩ := hSw); go_simp; (try with_reducible rfl)
        try simp only [Act.put, List.setIfInBounds_toArray, List.set_cons_zero, List.set_cons_succ]
        refine take_at (i := 1) (v := ?_) 37 rfl rfl (by kernel_rfl) (by kernel_rfl) (by kernel_rfl) (by kernel_rfl) (by kernel_rfl) (by kernel_rfl) (by kernel_rfl) (fun _ _ _ h => h) (Or.inl ⟨by kernel_rfl, ?_⟩) hHeld ?_
        rotate_left
        · intro w hSw; (try dsimp only at hSw); (try obtain ⟨f0, f1, f2⟩ := hSw); go_simp; (try with_reducible rfl)
        try simp only [Act.put, List.setIfInBounds_toArray, List.set_cons_zero, List.set_cons_succ]
        refine take_at (i := 2) (v := ?_) 38 rfl rfl (by kernel_rfl) (by kernel_rfl) (by kernel_rfl) (by kernel_rfl) (by kernel_rfl) (by kernel_rfl) (by kernel_rfl) (fun _ _ _ h => h) (Or.inl ⟨by kernel_rfl, ?_⟩) hHeld ?_
        rotate_left
        · intro w hSw; (try dsimp only at hSw); (try obtain ⟨f0, f1, f2⟩ := hSw); go_simp; (try with_reducible rfl)
        try simp only [Act.put, List.setIfInBounds_toArray, List.set_cons_zero, List.set_cons_succ]
        refine take_at (i := 3) (v := ?_) 39 rfl rfl (by kernel_rfl) (by kernel_rfl) (by kernel_rfl) (by kernel_rfl) (by kernel_rfl) (by kernel_rfl) (by kernel_rfl) (fun _ _ _ h => h) (Or.inl ⟨by kernel_rfl, ?_⟩) hHeld ?_
        rotate_left
        · intro w hSw; (try dsimp only at hSw); (try obtain ⟨f0, f1, f2⟩ := hSw); go_simp; (try with_reducible rfl)
        try simp only [Act.put, List.setIfInBounds_toArray, List.set_cons_zero, List.set_cons_succ]
        refine take_at (i := 4) (v := ?_) 40 rfl rfl (by kernel_rfl) (by kernel_rfl) (by kernel_rfl) (by kernel_rfl) (by kernel_rfl) (by kernel_rfl) (by kernel_rfl) (fun _ _ _ h => h) (Or.inl ⟨by kernel_rfl, ?_⟩) hHeld ?_
        rotate_left
        · intro w hSw; (try dsimp only at hSw); (try obtain ⟨f0, f1, f2⟩ := hSw); go_simp; (try with_reducible rfl)
        try simp only [Act.put, List.setIfInBounds_toArray, List.set_cons_zero, List.set_cons_succ]
        refine take_at (i := 5) (v := ?_) 41 rfl rfl (by kernel_rfl) (by kernel_rfl) (by kernel_rfl) (by kernel_rfl) (by kernel_rfl) (by kernel_rfl) (by kernel_rfl) (fun _ _ _ h => h) (Or.inl ⟨by kernel_rfl, ?_⟩) hHeld ?_
        rotate_left
        · intro w hSw; (try dsimp only at hSw); (try obtain ⟨f0, f1, f2⟩ := hSw); go_simp; (try with_reducible rfl)
        try simp only [Act.put, List.setIfInBounds_toArray, List.set_cons_zero, List.set_cons_succ]
        refine take_at (i := 6) (v := ?_) 42 rfl rfl (by kernel_rfl) (by kernel_rfl) (by kernel_rfl) (by kernel_rfl) (by kernel_rfl) (by kernel_rfl) (by kernel_rfl) (fun _ _ _ h => h) (Or.inl ⟨by kernel_rfl, ?_⟩) hHeld ?_
        rotate_left
        · intro w hSw; (try dsimp only at hSw); (try obtain ⟨f0, f1, f2⟩ := hSw); go_simp; (try with_reducible rfl)
        try simp only [Act.put, List.setIfInBounds_toArray, List.set_cons_zero, List.set_cons_succ]
        refine take_at (i := 7) (v := ?_) 43 rfl rfl (by kernel_rfl) (by kernel_rfl) (by kernel_rfl) (by kernel_rfl) (by kernel_rfl) (by kernel_rfl) (by kernel_rfl) (fun _ _ _ h => h) (Or.inl ⟨by kernel_rfl, ?_⟩) hHeld ?_
        rotate_left
        · intro w hSw; (try dsimp only at hSw); (try obtain ⟨f0, f1, f2⟩ := hSw); go_simp; (try with_reducible rfl)
        try simp only [Act.put, List.setIfInBounds_toArray, List.set_cons_zero, List.set_cons_succ]
        refine take_at (i := 8) (v := ?_) 44 rfl rfl (by kernel_rfl) (by kernel_rfl) (by kernel_rfl) (by kernel_rfl) (by kernel_rfl) (by kernel_rfl) (by kernel_rfl) (fun _ _ _ h => h) (Or.inl ⟨by kernel_rfl, ?_⟩) hHeld ?_
        rotate_left
        · intro w hSw; (try dsimp only at hSw); (try obtain ⟨f0, f1, f2⟩ := hSw); go_simp; (try with_reducible rfl)
        try simp only [Act.put, List.setIfInBounds_toArray, List.set_cons_zero, List.set_cons_succ]
        refine take_at (i := 9) (v := ?_) 45 rfl rfl (by kernel_rfl) (by kernel_rfl) (by kernel_rfl) (by kernel_rfl) (by kernel_rfl) (by kernel_rfl) (by kernel_rfl) (fun _ _ _ h => h) (Or.inl ⟨by kernel_rfl, ?_⟩) hHeld ?_
        rotate_left
        · intro w hSw; (try dsimp only at hSw); (try obtain ⟨f0, f1, f2⟩ := hSw); go_simp; (try with_reducible rfl)
        try simp only [Act.put, List.setIfInBounds_toArray, List.set_cons_zero, List.set_cons_succ]
        refine take_at (i := 10) (v := ?_) 46 rfl rfl (by kernel_rfl) (by kernel_rfl) (by kernel_rfl) (by kernel_rfl) (by kernel_rfl) (by kernel_rfl) (by kernel_rfl) (fun _ _ _ h => h) (Or.inl ⟨by kernel_rfl, ?_⟩) hHeld ?_
        rotate_left
        · intro w hSw; (try dsimp only at hSw); (try obtain ⟨f0, f1, f2⟩ := hSw); go_simp; (try with_reducible rfl)
        try simp only [Act.put, List.setIfInBounds_toArray, List.set_cons_zero, List.set_cons_succ]
        refine take_at (i := 11) (v := ?_) 47 rfl rfl (by kernel_rfl) (by kernel_rfl) (by kernel_rfl) (by kernel_rfl) (by kernel_rfl) (by kernel_rfl) (by kernel_rfl) (fun _ _ _ h => h) (Or.inl ⟨by kernel_rfl, ?_⟩) hHeld ?_
        rotate_left
        · intro w hSw; (try dsimp only at hSw); (try obtain ⟨f0, f1, f2⟩ := hSw); go_simp; (try with_reducible rfl)
        try simp only [Act.put, List.setIfInBounds_toArray, List.set_cons_zero, List.set_cons_succ]
        refine take_at (i := 12) (v := ?_) 48 rfl rfl (by kernel_rfl) (by kernel_rfl) (by kernel_rfl) (by kernel_rfl) (by kernel_rfl) (by kernel_rfl) (by kernel_rfl) (fun _ _ _ h => h) (Or.inl ⟨by kernel_rfl, ?_⟩) hHeld ?_
        rotate_left
        · intro w hSw; (try dsimp only at hSw); (try obtain ⟨f0, f1, f2⟩ := hSw); go_simp; (try with_reducible rfl)
        try simp only [Act.put, List.setIfInBounds_toArray, List.set_cons_zero, List.set_cons_succ]
        refine take_at (i := 13) (v := ?_) 49 rfl rfl (by kernel_rfl) (by kernel_rfl) (by kernel_rfl) (by kernel_rfl) (by kernel_rfl) (by kernel_rfl) (by kernel_rfl) (fun _ _ _ h => h) (Or.inl ⟨by kernel_rfl, ?_⟩) hHeld ?_
        rotate_left
        · intro w hSw; (try dsimp only at hSw); (try obtain ⟨f0, f1, f2⟩ := hSw); go_simp; (try with_reducible rfl)
        try simp only [Act.put, List.setIfInBounds_toArray, List.set_cons_zero, List.set_cons_succ]
        refine Ord.wpAnyU_one (i := 14) (by kernel_rfl) rfl (fun K hK => ?_)
        rw [if_pos (by rfl)]
        refine one_upd (.tmp 39) (.tmp 40) (.tmp 49) rfl rfl m n r3.files hn rfl HO3.out s rfl hs (f.by'.take N) (min f.sure N) rfl ?_
        intro w4 ho4 hg4
        have HP4 := Lib.hid (PD.put (w := w3.drew) (w' := w4) (d := r3) ⟨World.rowIs.drew HP3.out.row, HO3.out, HP3.out.ne⟩ ho4 hg4)
        have HG4 := Lib.hid hg4
        clear ho4 hg4
        refine hK.out _ _ (fun h => by cases h) ?_
        clear hK K
        try simp only [Act.put, List.setIfInBounds_toArray, List.set_cons_zero, List.set_cons_succ]
        refine Ord.wpAnyU_done (by kernel_rfl) ?_ _
        go_wp2
        go_ret
        exact ⟨rfl, HP4.out, (Bx.below (below_al HB1.out _)).trans ((Bx.grown HG3.out fun k e => Or.inl (Option.some.inj e).symm).trans (Bx.grown (a := w3) ⟨HG4.out.os, HG4.out.tape, HG4.out.output, HG4.out.size, HG4.out.block⟩ fun k e => Or.inr (Option.some.inj e).symm))⟩
      | false =>
        rw [if_neg (by decide)]
        go_enter Try.func31, Try.ntmps31
        go_wp2_with (first
        | (go_at_call 29; (with_reducible refine CT.out.mono ?_); rintro e w1 ⟨rfl, hb1⟩; have HB1 := Lib.hid hb1; have HP2 := Lib.hid ((HP.out.below hb1).below (below_al (Below.refl w1.heap.size w1) (.cells #[.string ⟨f.by'.toArray⟩, .int .i64 f.sure] 63))); have hc : (w1.alloc (.cells #[.string ⟨f.by'.toArray⟩, .int .i64 f.sure] 63)).cell? ⟨w1.heap.size, 0, none⟩ = some (.string ⟨f.by'.toArray⟩) := (by rw [World.cell?_alloc_at _ _ _ _ (by simp)]; rfl); have hmw := HP.out.lt; have hsz1 : w.heap.size ≤ w1.heap.size := HB1.out.size; obtain ⟨hc, hcs⟩ : _ ∧ (w1.alloc (.cells #[.string ⟨f.by'.toArray⟩, .int .i64 f.sure] 63)).cell? ⟨w1.heap.size, 1, none⟩ = some (.int .i64 f.sure) := ⟨hc, (by rw [World.cell?_alloc_at _ _ _ _ (by simp)]; rfl)⟩; clear hb1)
        | (go_at_call 28; (refine (CB.out _ HP2.out).mono ?_); rintro e w3 ⟨rfl, HP3, HG3⟩))
        go_ret
        exact ⟨rfl, up HP3.out, (Bx.below (below_al HB1.out _)).trans (Bx.grown HG3.out fun k e => Or.inl (Option.some.inj e).symm)⟩
  · have e3 : cutV d s.data.toList z = ((thereV d s.data.toList).2, d) := by
      unfold cutV thereV at *
      cases hdd : d.dead with
      | true => rfl
      | false =>
        cases hff : find s.data.toList d.files with
        | none => rfl
        | some f => rw [hdd, hff] at ht; exact absurd rfl ht
    rw [e3]
    generalize thereV d s.data.toList = T at *
    have dt : (T.2 != 0) = true := bne_iff_ne.2 ht
    go_enter Try.func31, Try.ntmps31
    go_wp2_with (go_at_call 29; (with_reducible refine CT.out.mono ?_); rintro e w1 ⟨rfl, hb1⟩; have HB1 := Lib.hid hb1; clear hb1)
    go_ret
    exact ⟨rfl, up ((HP.out.below HB1.out).below (below_al (Below.refl _ _) _)), Bx.below (below_al HB1.out _)⟩
end Dsk
end Go.Proofs.Ytnbmjbelmcibgaa
