/- What is put behind a file: the walk. -/
import Derived.Test.YtnbmjbelmcibgaaDskH
import Derived.Deep.Cut
set_option linter.unusedSimpArgs false
set_option linter.unusedVariables false
namespace Go.Proofs.Ytnbmjbelmcibgaa
open Go.RowKit Go.Great Go.Maps
namespace Dsk
theorem wp_named {P : Program} {c : Code} {Q : Exit → Act → World → Prop} {a : Act} {w : World} (h : ∀ W, W = w → c.wp P Q a W) : c.wp P Q a w := h w rfl
set_option maxRecDepth 100000 in
set_option maxHeartbeats 4000000 in
theorem append_any (w : World) (g m n : Nat) (d : DkIn) (h : PD w g m n d) (hd : Dok d) (hn : n < 1000000) (s b : ByteArray) (hs : s.size ≤ 1000000000) (hbs : b.size ≤ 1000000000) (hb : bytesOf d.files ≤ 1000000000) (hl : ∀ f ∈ d.files, f.by'.length ≤ 1000000000) : Calls Try.prog 9 #[.pointer (some ⟨g, 0, none⟩), .string s, .string b] w fun e w' => e = .returned (.int .i64 (appendV d s.data.toList b.data.toList).1) ∧ Hid (PD w' g m (n + 1) (appendV d s.data.toList b.data.toList).2) ∧ Hid (Bx g m w w') := by
  have HP := Lib.hid h
  have CW : Hid (∀ W, PD W g m n d → Calls Try.prog 26 #[.pointer (some ⟨g, 0, none⟩)] W fun e w' => e = .returned (.int .i64 (if d.dead then 14 else 0)) ∧ W = w') := fun W h => wakes_any W g m n d h
  have CN : Hid (∀ W, Calls Try.prog 27 #[.string s] W fun e w' => e = .returned (.bool (isName s.data.toList)) ∧ Below W.heap.size W w') := fun W => name_any s hs W
  have CU : Hid (∀ W, PD W g m n d → Calls Try.prog 19 #[.pointer (some ⟨g, 0, none⟩)] W fun e w' => e = .returned (.int .i64 (usedV d)) ∧ Below W.heap.size W w') := fun W h => used_any W g m n d h hd hb
  have up : ∀ {W : World} {d : DkIn}, PD W g m n d → PD W g m (n + 1) d := fun h => ⟨h.row, h.own.mono (by omega), h.ne⟩
  have HLB : Hid (b.data.toList.length = b.size) := by show _ = _; rw [Array.length_toList]; rfl
  clear h
  cases hdd : d.dead with
  | true =>
    have e3 : appendV d s.data.toList b.data.toList = (14, d) := by unfold appendV; rw [hdd, if_pos rfl]
    rw [e3]
    rw [hdd] at CW
    go_enter Try.func9, Try.ntmps9
    go_wp2_with ((go_at_call 26; (with_reducible refine (CW.out _ HP.out).mono ?_); rintro e w1 ⟨rfl, rfl⟩))
    go_ret
    exact ⟨rfl, up HP.out, Bx.refl _ _ _⟩
  | false =>
    rw [hdd] at CW
    cases hnm : isName s.data.toList with
    | false =>
      have e3 : appendV d s.data.toList b.data.toList = (1, d) := by unfold appendV; rw [hdd, if_neg (by decide), if_pos hnm]
      rw [e3]
      rw [hnm] at CN
      go_enter Try.func9, Try.ntmps9
      go_wp2_with (first | (go_at_call 26; (with_reducible refine (CW.out _ HP.out).mono ?_); rintro e w1 ⟨rfl, rfl⟩) | (go_at_call 27; (with_reducible refine (CN.out _).mono ?_); rintro e w2 ⟨rfl, hb2⟩; have HB1 := Lib.hid hb2; have HP1 := Lib.hid (HP.out.below hb2); clear hb2))
      go_ret
      exact ⟨rfl, up HP1.out, Bx.below HB1.out⟩
    | true =>
      rw [hnm] at CN
      obtain ⟨hr0, hr1⟩ := hd.room
      have hu0 : 0 ≤ usedV d ∧ usedV d ≤ 1000000000 := by unfold usedV; split <;> omega
      obtain ⟨U, hU⟩ : ∃ U, Hid (usedV d = U) := ⟨_, rfl⟩
      rw [hU.out] at hu0 CU
      obtain ⟨hu1, hu2⟩ := hu0
      have ew : IntKind.i64.wrap (d.room - U) = d.room - U := by rw [IntKind.wrap_i64]; omega
      by_cases hf : d.room - U < (b.size : Int)
      · have df : decide (d.room - U < (b.size : Int)) = true := decide_eq_true hf
        have e3 : appendV d s.data.toList b.data.toList = (4, d) := by unfold appendV; rw [hdd, if_neg (by decide), if_neg (by rw [hnm]; decide), hU.out, HLB.out, if_pos hf]
        rw [e3]
        go_enter Try.func9, Try.ntmps9
        go_upto_region 6 with (first | (go_at_call 26; (with_reducible refine (CW.out _ HP.out).mono ?_); rintro e w1 ⟨rfl, rfl⟩) | (go_at_call 27; (with_reducible refine (CN.out _).mono ?_); rintro e w2 ⟨rfl, hb2⟩; have HB1 := Lib.hid hb2; have HP1 := Lib.hid (HP.out.below hb2); clear hb2))
        obtain ⟨-, p1, -⟩ := HP1.out.cells
        have hHeld : w2.drew.cell? ⟨g, 1, none⟩ = some (.int .i64 d.room) := p1
        have HP2 : Hid (PD w2.drew g m n d) := ⟨World.rowIs.drew HP1.out.row, HP1.out.own.drew, HP1.out.ne⟩
        have hgl := HP1.out.lt.1
        refine Ord.wp_region_U (fun W' => W'.cell? ⟨g, 1, none⟩ = some (.int .i64 d.room)) [] (by kernel_rfl) ?_
        refine take_at (i := 0) (v := ?_) 21 rfl rfl (by kernel_rfl) (by kernel_rfl) (by kernel_rfl) (by kernel_rfl) (by kernel_rfl) (by kernel_rfl) (by kernel_rfl) (fun _ _ _ h => h) (Or.inl ⟨by kernel_rfl, ?_⟩) hHeld ?_
        rotate_left
        · intro w hSw; (try dsimp only at hSw); skip; go_simp; (try with_reducible rfl)
        try simp only [Act.put, List.setIfInBounds_toArray, List.set_cons_zero, List.set_cons_succ]
        refine take_at (i := 1) (v := ?_) 22 rfl rfl (by kernel_rfl) (by kernel_rfl) (by kernel_rfl) (by kernel_rfl) (by kernel_rfl) (by kernel_rfl) (by kernel_rfl) (fun _ _ _ h => h) (Or.inl ⟨by kernel_rfl, ?_⟩) hHeld ?_
        rotate_left
        · intro w hSw; (try dsimp only at hSw); skip; go_simp; (try with_reducible rfl)
        try simp only [Act.put, List.setIfInBounds_toArray, List.set_cons_zero, List.set_cons_succ]
        refine take_at (i := 2) (v := ?_) 23 rfl rfl (by kernel_rfl) (by kernel_rfl) (by kernel_rfl) (by kernel_rfl) (by kernel_rfl) (by kernel_rfl) (by kernel_rfl) (fun _ _ _ h => h) (Or.inl ⟨by kernel_rfl, ?_⟩) hHeld ?_
        rotate_left
        · intro w hSw; (try dsimp only at hSw); skip; go_simp; (try with_reducible rfl)
        try simp only [Act.put, List.setIfInBounds_toArray, List.set_cons_zero, List.set_cons_succ]
        refine take_at (i := 3) (v := ?_) 24 rfl rfl (by kernel_rfl) (by kernel_rfl) (by kernel_rfl) (by kernel_rfl) (by kernel_rfl) (by kernel_rfl) (by kernel_rfl) (fun _ _ _ h => h) (Or.inl ⟨by kernel_rfl, ?_⟩) hHeld ?_
        rotate_left
        · intro w hSw; (try dsimp only at hSw); skip; go_simp; (try with_reducible rfl)
        try simp only [Act.put, List.setIfInBounds_toArray, List.set_cons_zero, List.set_cons_succ]
        refine take_at (i := 4) (v := ?_) 25 rfl rfl (by kernel_rfl) (by kernel_rfl) (by kernel_rfl) (by kernel_rfl) (by kernel_rfl) (by kernel_rfl) (by kernel_rfl) (fun _ _ _ h => h) (Or.inl ⟨by kernel_rfl, ?_⟩) hHeld ?_
        rotate_left
        · intro w hSw; (try dsimp only at hSw); skip; go_simp; (try with_reducible rfl)
        try simp only [Act.put, List.setIfInBounds_toArray, List.set_cons_zero, List.set_cons_succ]
        refine take_at (i := 5) (v := ?_) 26 rfl rfl (by kernel_rfl) (by kernel_rfl) (by kernel_rfl) (by kernel_rfl) (by kernel_rfl) (by kernel_rfl) (by kernel_rfl) (fun _ _ _ h => h) (Or.inl ⟨by kernel_rfl, ?_⟩) hHeld ?_
        rotate_left
        · intro w hSw; (try dsimp only at hSw); skip; go_simp; (try with_reducible rfl)
        try simp only [Act.put, List.setIfInBounds_toArray, List.set_cons_zero, List.set_cons_succ]
        refine take_at (i := 6) (v := ?_) 27 rfl rfl (by kernel_rfl) (by kernel_rfl) (by kernel_rfl) (by kernel_rfl) (by kernel_rfl) (by kernel_rfl) (by kernel_rfl) (fun _ _ _ h => h) (Or.inl ⟨by kernel_rfl, ?_⟩) hHeld ?_
        rotate_left
        · intro w hSw; (try dsimp only at hSw); skip; go_simp; (try with_reducible rfl)
        try simp only [Act.put, List.setIfInBounds_toArray, List.set_cons_zero, List.set_cons_succ]
        refine Ord.wpAnyU_one (i := 7) (by kernel_rfl) rfl (fun K hK => ?_)
        go_simp
        go_wp2_with (go_at_call 19; (with_reducible refine (CU.out _ HP2.out).mono ?_); rintro e w3 ⟨rfl, hb3⟩; have hs3 := (hb3.cell (p := ⟨g, 1, none⟩) hgl).trans hHeld; have HB3 : Hid (Below w2.heap.size w2 w3) := ⟨hb3.os, hb3.tape, hb3.output, hb3.size, hb3.block⟩; clear hb3)
        refine hK.out _ _ (fun _ => hs3) ?_
        clear hK K
        try simp only [Act.put, List.setIfInBounds_toArray, List.set_cons_zero, List.set_cons_succ]
        clear hHeld
        have hHeld := hs3
        refine take_at (i := 8) (v := ?_) 29 rfl rfl (by kernel_rfl) (by kernel_rfl) (by kernel_rfl) (by kernel_rfl) (by kernel_rfl) (by kernel_rfl) (by kernel_rfl) (fun _ _ _ h => h) (Or.inl ⟨by kernel_rfl, ?_⟩) hHeld ?_
        rotate_left
        · intro w hSw; (try dsimp only at hSw); skip; go_simp; (try with_reducible rfl)
        try simp only [Act.put, List.setIfInBounds_toArray, List.set_cons_zero, List.set_cons_succ]
        refine take_at (i := 9) (v := ?_) 30 rfl rfl (by kernel_rfl) (by kernel_rfl) (by kernel_rfl) (by kernel_rfl) (by kernel_rfl) (by kernel_rfl) (by kernel_rfl) (fun _ _ _ h => h) (Or.inl ⟨by kernel_rfl, ?_⟩) hHeld ?_
        rotate_left
        · intro w hSw; (try dsimp only at hSw); skip; go_simp; (try with_reducible rfl)
        try simp only [Act.put, List.setIfInBounds_toArray, List.set_cons_zero, List.set_cons_succ]
        refine Ord.wpAnyU_one (i := 10) (by kernel_rfl) rfl (fun K hK => ?_)
        go_simp
        refine hK.out _ _ (fun _ => hs3) ?_
        clear hK K
        try simp only [Act.put, List.setIfInBounds_toArray, List.set_cons_zero, List.set_cons_succ]
        refine Ord.wpAnyU_done (by kernel_rfl) ?_ _
        have HO3 := Lib.hid (HP2.out.own.kept (w' := w3) (row := none) ⟨HB3.out.os, HB3.out.tape, HB3.out.output, HB3.out.size, fun k hk _ => HB3.out.block k hk⟩ (by simp))
        obtain ⟨c0, -⟩ := (HP1.out.below HB3.out).cells
        go_wp2
        go_ret
        exact ⟨rfl, up (HP1.out.below HB3.out), Bx.below (below2 HB1.out HB3.out)⟩
      · have df : decide (d.room - U < (b.size : Int)) = false := decide_eq_false hf
        obtain ⟨f, hff⟩ : ∃ f, (find s.data.toList d.files).getD ⟨s.data.toList, [], 0⟩ = f := ⟨_, rfl⟩
        have hfl : f.by'.length ≤ 1000000000 := by
          rw [← hff]
          cases hq : find s.data.toList d.files with
          | none => simp
          | some x => exact hl x ((find_some hd.fok.rise _ x).1 hq).1
        have hfo : f.sure ≤ (f.by' ++ b.data.toList).length := by rw [← hff]; exact more_ok hd.fok _ _
        have e3 : appendV d s.data.toList b.data.toList = ((opV { d with files := putF ⟨s.data.toList, f.by' ++ b.data.toList, f.sure⟩ d.files }).2.1, (opV { d with files := putF ⟨s.data.toList, f.by' ++ b.data.toList, f.sure⟩ d.files }).2.2) := by unfold appendV; rw [hdd, if_neg (by decide), if_neg (by rw [hnm]; decide), hU.out, HLB.out, if_neg hf, hff]
        rw [e3]
        have CB : Hid (∀ W, PD W g m (n + 1) { d with files := putF ⟨s.data.toList, f.by' ++ b.data.toList, f.sure⟩ d.files } → Calls Try.prog 28 #[.pointer (some ⟨g, 0, none⟩)] W fun e w' => e = .returned (.tuple #[.bool (opV { d with files := putF ⟨s.data.toList, f.by' ++ b.data.toList, f.sure⟩ d.files }).1, .int .i64 (opV { d with files := putF ⟨s.data.toList, f.by' ++ b.data.toList, f.sure⟩ d.files }).2.1]) ∧ Hid (PD w' g m (n + 1) (opV { d with files := putF ⟨s.data.toList, f.by' ++ b.data.toList, f.sure⟩ d.files }).2.2) ∧ Hid (W.grownBy w' (some g))) := fun W h => begins_any W g m (n + 1) _ h ⟨hd.fok.put ⟨s.data.toList, f.by' ++ b.data.toList, f.sure⟩ hnm hfo, hd.room, hd.ops, hd.last⟩
        generalize opV { d with files := putF ⟨s.data.toList, f.by' ++ b.data.toList, f.sure⟩ d.files } = r at *
        have hzs : ¬ 9223372036854775807 < (ByteArray.mk f.by'.toArray).size + b.size := by
          have : (ByteArray.mk f.by'.toArray).size = f.by'.length := by simp [ByteArray.size]
          omega
        have q1 : ByteArray.mk f.by'.toArray ++ b = ⟨(f.by' ++ b.data.toList).toArray⟩ := by
          apply ByteArray.ext
          simp
        go_enter Try.func9, Try.ntmps9
        go_upto_region 6 with (first | (go_at_call 26; (with_reducible refine (CW.out _ HP.out).mono ?_); rintro e w1 ⟨rfl, rfl⟩) | (go_at_call 27; (with_reducible refine (CN.out _).mono ?_); rintro e w2 ⟨rfl, hb2⟩; have HB1 := Lib.hid hb2; have HP1 := Lib.hid (HP.out.below hb2); clear hb2))
        obtain ⟨-, p1, -⟩ := HP1.out.cells
        have hHeld : w2.drew.cell? ⟨g, 1, none⟩ = some (.int .i64 d.room) := p1
        have HP2 : Hid (PD w2.drew g m n d) := ⟨World.rowIs.drew HP1.out.row, HP1.out.own.drew, HP1.out.ne⟩
        have hgl := HP1.out.lt.1
        refine Ord.wp_region_U (fun W' => W'.cell? ⟨g, 1, none⟩ = some (.int .i64 d.room)) [] (by kernel_rfl) ?_
        refine take_at (i := 0) (v := ?_) 21 rfl rfl (by kernel_rfl) (by kernel_rfl) (by kernel_rfl) (by kernel_rfl) (by kernel_rfl) (by kernel_rfl) (by kernel_rfl) (fun _ _ _ h => h) (Or.inl ⟨by kernel_rfl, ?_⟩) hHeld ?_
        rotate_left
        · intro w hSw; (try dsimp only at hSw); skip; go_simp; (try with_reducible rfl)
        try simp only [Act.put, List.setIfInBounds_toArray, List.set_cons_zero, List.set_cons_succ]
        refine take_at (i := 1) (v := ?_) 22 rfl rfl (by kernel_rfl) (by kernel_rfl) (by kernel_rfl) (by kernel_rfl) (by kernel_rfl) (by kernel_rfl) (by kernel_rfl) (fun _ _ _ h => h) (Or.inl ⟨by kernel_rfl, ?_⟩) hHeld ?_
        rotate_left
        · intro w hSw; (try dsimp only at hSw); skip; go_simp; (try with_reducible rfl)
        try simp only [Act.put, List.setIfInBounds_toArray, List.set_cons_zero, List.set_cons_succ]
        refine take_at (i := 2) (v := ?_) 23 rfl rfl (by kernel_rfl) (by kernel_rfl) (by kernel_rfl) (by kernel_rfl) (by kernel_rfl) (by kernel_rfl) (by kernel_rfl) (fun _ _ _ h => h) (Or.inl ⟨by kernel_rfl, ?_⟩) hHeld ?_
        rotate_left
        · intro w hSw; (try dsimp only at hSw); skip; go_simp; (try with_reducible rfl)
        try simp only [Act.put, List.setIfInBounds_toArray, List.set_cons_zero, List.set_cons_succ]
        refine take_at (i := 3) (v := ?_) 24 rfl rfl (by kernel_rfl) (by kernel_rfl) (by kernel_rfl) (by kernel_rfl) (by kernel_rfl) (by kernel_rfl) (by kernel_rfl) (fun _ _ _ h => h) (Or.inl ⟨by kernel_rfl, ?_⟩) hHeld ?_
        rotate_left
        · intro w hSw; (try dsimp only at hSw); skip; go_simp; (try with_reducible rfl)
        try simp only [Act.put, List.setIfInBounds_toArray, List.set_cons_zero, List.set_cons_succ]
        refine take_at (i := 4) (v := ?_) 25 rfl rfl (by kernel_rfl) (by kernel_rfl) (by kernel_rfl) (by kernel_rfl) (by kernel_rfl) (by kernel_rfl) (by kernel_rfl) (fun _ _ _ h => h) (Or.inl ⟨by kernel_rfl, ?_⟩) hHeld ?_
        rotate_left
        · intro w hSw; (try dsimp only at hSw); skip; go_simp; (try with_reducible rfl)
        try simp only [Act.put, List.setIfInBounds_toArray, List.set_cons_zero, List.set_cons_succ]
        refine take_at (i := 5) (v := ?_) 26 rfl rfl (by kernel_rfl) (by kernel_rfl) (by kernel_rfl) (by kernel_rfl) (by kernel_rfl) (by kernel_rfl) (by kernel_rfl) (fun _ _ _ h => h) (Or.inl ⟨by kernel_rfl, ?_⟩) hHeld ?_
        rotate_left
        · intro w hSw; (try dsimp only at hSw); skip; go_simp; (try with_reducible rfl)
        try simp only [Act.put, List.setIfInBounds_toArray, List.set_cons_zero, List.set_cons_succ]
        refine take_at (i := 6) (v := ?_) 27 rfl rfl (by kernel_rfl) (by kernel_rfl) (by kernel_rfl) (by kernel_rfl) (by kernel_rfl) (by kernel_rfl) (by kernel_rfl) (fun _ _ _ h => h) (Or.inl ⟨by kernel_rfl, ?_⟩) hHeld ?_
        rotate_left
        · intro w hSw; (try dsimp only at hSw); skip; go_simp; (try with_reducible rfl)
        try simp only [Act.put, List.setIfInBounds_toArray, List.set_cons_zero, List.set_cons_succ]
        refine Ord.wpAnyU_one (i := 7) (by kernel_rfl) rfl (fun K hK => ?_)
        go_simp
        go_wp2_with (go_at_call 19; (with_reducible refine (CU.out _ HP2.out).mono ?_); rintro e w3 ⟨rfl, hb3⟩; have hs3 := (hb3.cell (p := ⟨g, 1, none⟩) hgl).trans hHeld; have HB3 : Hid (Below w2.heap.size w2 w3) := ⟨hb3.os, hb3.tape, hb3.output, hb3.size, hb3.block⟩; clear hb3)
        refine hK.out _ _ (fun _ => hs3) ?_
        clear hK K
        try simp only [Act.put, List.setIfInBounds_toArray, List.set_cons_zero, List.set_cons_succ]
        clear hHeld
        have hHeld := hs3
        refine take_at (i := 8) (v := ?_) 29 rfl rfl (by kernel_rfl) (by kernel_rfl) (by kernel_rfl) (by kernel_rfl) (by kernel_rfl) (by kernel_rfl) (by kernel_rfl) (fun _ _ _ h => h) (Or.inl ⟨by kernel_rfl, ?_⟩) hHeld ?_
        rotate_left
        · intro w hSw; (try dsimp only at hSw); skip; go_simp; (try with_reducible rfl)
        try simp only [Act.put, List.setIfInBounds_toArray, List.set_cons_zero, List.set_cons_succ]
        refine take_at (i := 9) (v := ?_) 30 rfl rfl (by kernel_rfl) (by kernel_rfl) (by kernel_rfl) (by kernel_rfl) (by kernel_rfl) (by kernel_rfl) (by kernel_rfl) (fun _ _ _ h => h) (Or.inl ⟨by kernel_rfl, ?_⟩) hHeld ?_
        rotate_left
        · intro w hSw; (try dsimp only at hSw); skip; go_simp; (try with_reducible rfl)
        try simp only [Act.put, List.setIfInBounds_toArray, List.set_cons_zero, List.set_cons_succ]
        refine Ord.wpAnyU_one (i := 10) (by kernel_rfl) rfl (fun K hK => ?_)
        go_simp
        refine hK.out _ _ (fun _ => hs3) ?_
        clear hK K
        try simp only [Act.put, List.setIfInBounds_toArray, List.set_cons_zero, List.set_cons_succ]
        refine Ord.wpAnyU_done (by kernel_rfl) ?_ _
        have HO3 := Lib.hid (HP2.out.own.kept (w' := w3) (row := none) ⟨HB3.out.os, HB3.out.tape, HB3.out.output, HB3.out.size, fun k hk _ => HB3.out.block k hk⟩ (by simp))
        obtain ⟨c0, -⟩ := (HP1.out.below HB3.out).cells
        go_upto_region 10 with (at_lookup; refine lookup_file rfl (.tmp 34) (.tmp 35) rfl m n d.files rfl HO3.out s rfl hs f hff ?_)
        refine wp_named fun W hW => ?_
        have hc : W.cell? ⟨w3.heap.size, 0, none⟩ = some (.string ⟨(f.by' ++ b.data.toList).toArray⟩) ∧ W.cell? ⟨w3.heap.size, 1, none⟩ = some (.int .i64 f.sure) := by
          rw [hW]
          constructor <;> (rw [World.cell?_alloc_at _ _ _ _ (by simp)]; rfl)
        have HBW : Hid (Below w3.heap.size w3 W) := by rw [hW]; exact below_al (Below.refl _ _) _
        clear hW
        have HPW := Lib.hid ((HP1.out.below HB3.out).below HBW.out)
        obtain ⟨p0, -⟩ := HPW.out.cells
        have hHeld : W.drew.cell? ⟨g, 0, none⟩ = some (.map (some m)) ∧ W.drew.cell? ⟨w3.heap.size, 0, none⟩ = some (.string ⟨(f.by' ++ b.data.toList).toArray⟩) ∧ W.drew.cell? ⟨w3.heap.size, 1, none⟩ = some (.int .i64 f.sure) := ⟨p0, hc.1, hc.2⟩
        have HOW : Hid (W.drew.ownsMap Try.prog 9 fileElem m n (datum d.files)) := HPW.out.own.drew
        clear hc p0 c0
        refine Ord.wp_region_U (fun W' => W'.cell? ⟨g, 0, none⟩ = some (.map (some m)) ∧ W'.cell? ⟨w3.heap.size, 0, none⟩ = some (.string ⟨(f.by' ++ b.data.toList).toArray⟩) ∧ W'.cell? ⟨w3.heap.size, 1, none⟩ = some (.int .i64 f.sure)) [6] (by kernel_rfl) ?_
        refine take_at (i := 0) (v := ?_) 42 rfl rfl (by kernel_rfl) (by kernel_rfl) (by kernel_rfl) (by kernel_rfl) (by kernel_rfl) (by kernel_rfl) (by kernel_rfl) (fun _ _ _ h => h) (Or.inl ⟨by kernel_rfl, ?_⟩) hHeld ?_
        rotate_left
        · intro w hSw; (try dsimp only at hSw); (try obtain ⟨f0, f1, f2⟩ := hSw); go_simp; (try with_reducible rfl)
        try simp only [Act.put, List.setIfInBounds_toArray, List.set_cons_zero, List.set_cons_succ]
        refine take_at (i := 1) (v := ?_) 43 rfl rfl (by kernel_rfl) (by kernel_rfl) (by kernel_rfl) (by kernel_rfl) (by kernel_rfl) (by kernel_rfl) (by kernel_rfl) (fun _ _ _ h => h) (Or.inl ⟨by kernel_rfl, ?_⟩) hHeld ?_
        rotate_left
        · intro w hSw; (try dsimp only at hSw); (try obtain ⟨f0, f1, f2⟩ := hSw); go_simp; (try with_reducible rfl)
        try simp only [Act.put, List.setIfInBounds_toArray, List.set_cons_zero, List.set_cons_succ]
        refine take_at (i := 2) (v := ?_) 44 rfl rfl (by kernel_rfl) (by kernel_rfl) (by kernel_rfl) (by kernel_rfl) (by kernel_rfl) (by kernel_rfl) (by kernel_rfl) (fun _ _ _ h => h) (Or.inl ⟨by kernel_rfl, ?_⟩) hHeld ?_
        rotate_left
        · intro w hSw; (try dsimp only at hSw); (try obtain ⟨f0, f1, f2⟩ := hSw); go_simp; (try with_reducible rfl)
        try simp only [Act.put, List.setIfInBounds_toArray, List.set_cons_zero, List.set_cons_succ]
        refine take_at (i := 3) (v := ?_) 45 rfl rfl (by kernel_rfl) (by kernel_rfl) (by kernel_rfl) (by kernel_rfl) (by kernel_rfl) (by kernel_rfl) (by kernel_rfl) (fun _ _ _ h => h) (Or.inl ⟨by kernel_rfl, ?_⟩) hHeld ?_
        rotate_left
        · intro w hSw; (try dsimp only at hSw); (try obtain ⟨f0, f1, f2⟩ := hSw); go_simp; (try with_reducible rfl)
        try simp only [Act.put, List.setIfInBounds_toArray, List.set_cons_zero, List.set_cons_succ]
        refine take_at (i := 4) (v := ?_) 46 rfl rfl (by kernel_rfl) (by kernel_rfl) (by kernel_rfl) (by kernel_rfl) (by kernel_rfl) (by kernel_rfl) (by kernel_rfl) (fun _ _ _ h => h) (Or.inl ⟨by kernel_rfl, ?_⟩) hHeld ?_
        rotate_left
        · intro w hSw; (try dsimp only at hSw); (try obtain ⟨f0, f1, f2⟩ := hSw); go_simp; (try with_reducible rfl)
        try simp only [Act.put, List.setIfInBounds_toArray, List.set_cons_zero, List.set_cons_succ]
        refine take_at (i := 5) (v := ?_) 47 rfl rfl (by kernel_rfl) (by kernel_rfl) (by kernel_rfl) (by kernel_rfl) (by kernel_rfl) (by kernel_rfl) (by kernel_rfl) (fun _ _ _ h => h) (Or.inl ⟨by kernel_rfl, ?_⟩) hHeld ?_
        rotate_left
        · intro w hSw; (try dsimp only at hSw); (try obtain ⟨f0, f1, f2⟩ := hSw); go_simp; (try with_reducible rfl)
        try simp only [Act.put, List.setIfInBounds_toArray, List.set_cons_zero, List.set_cons_succ]
        refine Ord.wpAnyU_one (i := 6) (by kernel_rfl) rfl (fun K hK => ?_)
        rw [if_pos (by rfl)]
        refine one_upd (.tmp 45) (.tmp 46) (.tmp 47) rfl rfl m n d.files hn rfl HOW.out s rfl hs (f.by' ++ b.data.toList) f.sure rfl ?_
        intro w6 ho6 hg6
        have HP6 := Lib.hid (PD.put (w := W.drew) (w' := w6) (d := d) ⟨World.rowIs.drew HPW.out.row, HOW.out, HPW.out.ne⟩ ho6 hg6)
        have HG6 := Lib.hid hg6
        clear ho6 hg6
        refine hK.out _ _ (fun h => by cases h) ?_
        clear hK K
        try simp only [Act.put, List.setIfInBounds_toArray, List.set_cons_zero, List.set_cons_succ]
        refine Ord.wpAnyU_done (by kernel_rfl) ?_ _
        go_wp2_with (go_at_call 28; (refine (CB.out _ HP6.out).mono ?_); rintro e w7 ⟨rfl, HP7, HG7⟩)
        go_ret
        exact ⟨rfl, HP7.out, (Bx.below (below2 HB1.out (below2 HB3.out HBW.out))).trans ((Bx.grown (a := W) ⟨HG6.out.os, HG6.out.tape, HG6.out.output, HG6.out.size, HG6.out.block⟩ fun k e => Or.inr (Option.some.inj e).symm).trans (Bx.grown HG7.out fun k e => Or.inl (Option.some.inj e).symm))⟩
end Dsk
end Go.Proofs.Ytnbmjbelmcibgaa
