/- What is renamed: the walk. -/
import Derived.Test.YtnbmjbelmcibgaaDskV
import Derived.Deep.Cut
set_option linter.unusedSimpArgs false
set_option linter.unusedVariables false
namespace Go.Proofs.Ytnbmjbelmcibgaa
open Go.RowKit Go.Great Go.Maps
namespace Dsk
/-- A file is struck out of the map. -/
theorem list_del {ops : Array Oper} {rest : List Oper} {o : Oper} {a : Act} {w : World} {Q : Exit → Act → World → Prop} (hg : o.guard = none) (m x : Operand) (hop : o.op = Op.call { callee := Callee.builtin Builtin.delete, args := #[m, x], argTypes := #[55, 9] }) (hd : o.dst = none) (b n : Nat) (l : List FileIn)
    (hm : a.eval m = .map (some b)) (hown : w.ownsMap Try.prog 9 fileElem b n (datum l)) (s : ByteArray) (hx : a.eval x = .string s) (hs : s.size ≤ 1000000000)
    (hK : ∀ w', w'.ownsMap Try.prog 9 fileElem b n (datum (del s.data.toList l)) → w.grownBy w' (some b) → wpList Try.prog ops Q rest a w') : wpList Try.prog ops Q (o :: rest) a w :=
  wpList_delete_own w hg m x 55 9 hop 63 law Try.underlying55 fileElem b n _ hm hown _ (.string s.data.toList) hx (WideMaps.keyOf_string_mk Try.underlying9 (by unfold maxLen; omega)) fun w' r1 r2 => by
    rw [datum_del] at r1
    rw [hd]
    exact hK w' r1 r2.grown
set_option maxRecDepth 100000 in
set_option maxHeartbeats 4000000 in
theorem rename_any (w : World) (g m n : Nat) (d : DkIn) (h : PD w g m n d) (hd : Dok d) (hn : n < 1000000) (s t : ByteArray) (hs : s.size ≤ 1000000000) (ht : t.size ≤ 1000000000) : Calls Try.prog 12 #[.pointer (some ⟨g, 0, none⟩), .string s, .string t] w fun e w' => e = .returned (.int .i64 (renameV d s.data.toList t.data.toList).1) ∧ Hid (PD w' g m (n + 1) (renameV d s.data.toList t.data.toList).2) ∧ Hid (Bx g m w w') := by
  have HP := Lib.hid h
  have CW : Hid (∀ W, PD W g m n d → Calls Try.prog 26 #[.pointer (some ⟨g, 0, none⟩)] W fun e w' => e = .returned (.int .i64 (if d.dead then 14 else 0)) ∧ W = w') := fun W h => wakes_any W g m n d h
  have CN : Hid (∀ W, Calls Try.prog 27 #[.string t] W fun e w' => e = .returned (.bool (isName t.data.toList)) ∧ Below W.heap.size W w') := fun W => name_any t ht W
  have CT : Hid (∀ W, PD W g m n d → Calls Try.prog 29 #[.pointer (some ⟨g, 0, none⟩), .string s] W fun e w' => e = .returned (.tuple #[.agg #[.string ⟨(thereV d s.data.toList).1.by'.toArray⟩, .int .i64 (thereV d s.data.toList).1.sure], .int .i64 (thereV d s.data.toList).2]) ∧ Below W.heap.size W w') := fun W h => there_any W g m n d h s hs
  have CB : Hid (∀ W, PD W g m n d → Calls Try.prog 28 #[.pointer (some ⟨g, 0, none⟩)] W fun e w' => e = .returned (.tuple #[.bool (opV d).1, .int .i64 (opV d).2.1]) ∧ Hid (PD w' g m n (opV d).2.2) ∧ Hid (W.grownBy w' (some g))) := fun W h => begins_any W g m n d h hd
  have up : ∀ {W : World} {d : DkIn}, PD W g m n d → PD W g m (n + 1) d := fun h => ⟨h.row, h.own.mono (by omega), h.ne⟩
  clear h
  cases hdd : d.dead with
  | true =>
    have e3 : renameV d s.data.toList t.data.toList = (14, d) := by unfold renameV; rw [hdd, if_pos rfl]
    rw [e3]
    rw [hdd] at CW
    go_enter Try.func12, Try.ntmps12
    go_wp2_with ((go_at_call 26; (with_reducible refine (CW.out _ HP.out).mono ?_); rintro e w1 ⟨rfl, rfl⟩))
    go_ret
    exact ⟨rfl, up HP.out, Bx.refl _ _ _⟩
  | false =>
    rw [hdd] at CW
    cases hnm : isName t.data.toList with
    | false =>
      have e3 : renameV d s.data.toList t.data.toList = (1, d) := by unfold renameV; rw [hdd, if_neg (by decide), if_pos hnm]
      rw [e3]
      rw [hnm] at CN
      go_enter Try.func12, Try.ntmps12
      go_wp2_with (first | (go_at_call 26; (with_reducible refine (CW.out _ HP.out).mono ?_); rintro e w1 ⟨rfl, rfl⟩) | (go_at_call 27; (with_reducible refine (CN.out _).mono ?_); rintro e w2 ⟨rfl, hb2⟩; have HB1 := Lib.hid hb2; have HP1 := Lib.hid (HP.out.below hb2); clear hb2))
      go_ret
      exact ⟨rfl, up HP1.out, Bx.below HB1.out⟩
    | true =>
      rw [hnm] at CN
      cases hf : find s.data.toList d.files with
      | none =>
        have e3 : renameV d s.data.toList t.data.toList = (3, d) := by unfold renameV; rw [hdd, if_neg (by decide), if_neg (by rw [hnm]; decide), hf]
        have e1 : thereV d s.data.toList = (⟨[], [], 0⟩, 3) := by unfold thereV; rw [hdd, hf]; rfl
        rw [e3]
        rw [e1] at CT
        clear e1 e3 hf
        go_enter Try.func12, Try.ntmps12
        go_wp2_with (first | (go_at_call 26; (with_reducible refine (CW.out _ HP.out).mono ?_); rintro e w1 ⟨rfl, rfl⟩) | (go_at_call 27; (with_reducible refine (CN.out _).mono ?_); rintro e w2 ⟨rfl, hb2⟩; have HB1 := Lib.hid hb2; have HP1 := Lib.hid (HP.out.below hb2); clear hb2) | (go_at_call 29; (refine (CT.out _ HP1.out).mono ?_); rintro e w3 ⟨rfl, hb3⟩; have HP3 := Lib.hid ((HP1.out.below hb3).below (below_al (Below.refl w3.heap.size w3) (.cells #[.string ⟨#[]⟩, .int .i64 0] 63))); have HB3 := Lib.hid (below2 HB1.out hb3); clear hb3))
        go_ret
        exact ⟨rfl, up HP3.out, Bx.below (below_al HB3.out _)⟩
      | some f =>
        have e3 : renameV d s.data.toList t.data.toList = ((opV d).2.1, if (opV d).1 then { (opV d).2.2 with files := putF { f with nm := t.data.toList } (del s.data.toList (opV d).2.2.files) } else (opV d).2.2) := by unfold renameV; rw [hdd, if_neg (by decide), if_neg (by rw [hnm]; decide), hf]
        have e1 : thereV d s.data.toList = (f, 0) := by unfold thereV; rw [hdd, hf]; rfl
        rw [e3]
        rw [e1] at CT
        clear e1 e3 hf
        obtain ⟨r, hr⟩ : ∃ r, Hid (opV d = r) := ⟨_, rfl⟩
        rw [hr.out] at CB ⊢
        clear hr
        obtain ⟨r1, r2, r3⟩ := r
        dsimp only at CB ⊢
        cases r1 with
        | true =>
          rw [if_pos rfl]
          go_enter Try.func12, Try.ntmps12
          go_upto_region 12 with (first
            | (go_at_call 26; (with_reducible refine (CW.out _ HP.out).mono ?_); rintro e w1 ⟨rfl, rfl⟩)
            | (go_at_call 27; (with_reducible refine (CN.out _).mono ?_); rintro e w2 ⟨rfl, hb2⟩; have HB1 := Lib.hid hb2; have HP1 := Lib.hid (HP.out.below hb2); clear hb2)
            | (go_at_call 29; (with_reducible refine (CT.out _ HP1.out).mono ?_); rintro e w3 ⟨rfl, hb3⟩; have HP3 := Lib.hid ((HP1.out.below hb3).below (below_al (Below.refl w3.heap.size w3) (.cells #[.string ⟨f.by'.toArray⟩, .int .i64 f.sure] 63))); have HB3 := Lib.hid (below2 HB1.out hb3); have hmw := HP.out.lt; have hsz3 : w.heap.size ≤ w3.heap.size := HB3.out.size; obtain ⟨hc, hcs⟩ : (w3.alloc (.cells #[.string ⟨f.by'.toArray⟩, .int .i64 f.sure] 63)).cell? ⟨w3.heap.size, 0, none⟩ = some (.string ⟨f.by'.toArray⟩) ∧ (w3.alloc (.cells #[.string ⟨f.by'.toArray⟩, .int .i64 f.sure] 63)).cell? ⟨w3.heap.size, 1, none⟩ = some (.int .i64 f.sure) := ⟨(by rw [World.cell?_alloc_at _ _ _ _ (by simp)]; rfl), (by rw [World.cell?_alloc_at _ _ _ _ (by simp)]; rfl)⟩; clear hb3)
            | (go_at_call 28; (refine (CB.out _ HP3.out).mono ?_); rintro e w4 ⟨rfl, HP4, HG4⟩; obtain ⟨p0, -⟩ := HP4.out.cells)
            | (at_delete; refine list_del rfl (.tmp 37) (.tmp 38) rfl rfl m n r3.files rfl HP4.out.own s rfl hs ?_; intro w5 ho5 hg5; have HP5 := Lib.hid (PD.put HP4.out ho5 hg5); have HG5 := Lib.hid hg5; clear ho5 hg5))
          have hgn : g ≠ w3.heap.size := by omega
          have hmn : m ≠ w3.heap.size := by omega
          have hc3 : w5.cell? ⟨w3.heap.size, 0, none⟩ = some (.string ⟨f.by'.toArray⟩) := by
            unfold World.cell? at hc ⊢
            rw [HG5.out.block w3.heap.size (Nat.lt_of_lt_of_le (by simp) HG4.out.size) (fun e => hmn (Option.some.inj e).symm), HG4.out.block w3.heap.size (by simp) (fun e => hgn (Option.some.inj e).symm)]
            exact hc
          have hd3 : w5.cell? ⟨w3.heap.size, 1, none⟩ = some (.int .i64 f.sure) := by
            unfold World.cell? at hcs ⊢
            rw [HG5.out.block w3.heap.size (Nat.lt_of_lt_of_le (by simp) HG4.out.size) (fun e => hmn (Option.some.inj e).symm), HG4.out.block w3.heap.size (by simp) (fun e => hgn (Option.some.inj e).symm)]
            exact hcs
          obtain ⟨c0, -⟩ := HP5.out.cells
          have hHeld : w5.drew.cell? ⟨g, 0, none⟩ = some (.map (some m)) ∧ w5.drew.cell? ⟨w3.heap.size, 0, none⟩ = some (.string ⟨f.by'.toArray⟩) ∧ w5.drew.cell? ⟨w3.heap.size, 1, none⟩ = some (.int .i64 f.sure) := ⟨c0, hc3, hd3⟩
          have HO5 : Hid (w5.drew.ownsMap Try.prog 9 fileElem m n (datum (del s.data.toList r3.files))) := HP5.out.own.drew
          clear c0 hc hc3 hd3 hcs p0
          refine Ord.wp_region_U (fun W' => W'.cell? ⟨g, 0, none⟩ = some (.map (some m)) ∧ W'.cell? ⟨w3.heap.size, 0, none⟩ = some (.string ⟨f.by'.toArray⟩) ∧ W'.cell? ⟨w3.heap.size, 1, none⟩ = some (.int .i64 f.sure)) [6] (by kernel_rfl) ?_
          refine take_at (i := 0) (v := ?_) 39 rfl rfl (by kernel_rfl) (by kernel_rfl) (by kernel_rfl) (by kernel_rfl) (by kernel_rfl) (by kernel_rfl) (by kernel_rfl) (fun _ _ _ h => h) (Or.inl ⟨by kernel_rfl, ?_⟩) hHeld ?_
          rotate_left
          · intro w hSw; (try dsimp only at hSw); (try obtain ⟨f0, f1, f2⟩ := hSw); go_simp; (try with_reducible rfl)
          try simp only [Act.put, List.setIfInBounds_toArray, List.set_cons_zero, List.set_cons_succ]
          refine take_at (i := 1) (v := ?_) 40 rfl rfl (by kernel_rfl) (by kernel_rfl) (by kernel_rfl) (by kernel_rfl) (by kernel_rfl) (by kernel_rfl) (by kernel_rfl) (fun _ _ _ h => h) (Or.inl ⟨by kernel_rfl, ?_⟩) hHeld ?_
          rotate_left
          · intro w hSw; (try dsimp only at hSw); (try obtain ⟨f0, f1, f2⟩ := hSw); go_simp; (try with_reducible rfl)
          try simp only [Act.put, List.setIfInBounds_toArray, List.set_cons_zero, List.set_cons_succ]
          refine take_at (i := 2) (v := ?_) 41 rfl rfl (by kernel_rfl) (by kernel_rfl) (by kernel_rfl) (by kernel_rfl) (by kernel_rfl) (by kernel_rfl) (by kernel_rfl) (fun _ _ _ h => h) (Or.inl ⟨by kernel_rfl, ?_⟩) hHeld ?_
          rotate_left
          · intro w hSw; (try dsimp only at hSw); (try obtain ⟨f0, f1, f2⟩ := hSw); go_simp; (try with_reducible rfl)
          try simp only [Act.put, List.setIfInBounds_toArray, List.set_cons_zero, List.set_cons_succ]
          refine take_at (i := 3) (v := ?_) 42 rfl rfl (by kernel_rfl) (by kernel_rfl) (by kernel_rfl) (by kernel_rfl) (by kernel_rfl) (by kernel_rfl) (by kernel_rfl) (fun _ _ _ h => h) (Or.inl ⟨by kernel_rfl, ?_⟩) hHeld ?_
          rotate_left
          · intro w hSw; (try dsimp only at hSw); (try obtain ⟨f0, f1, f2⟩ := hSw); go_simp; (try with_reducible rfl)
          try simp only [Act.put, List.setIfInBounds_toArray, List.set_cons_zero, List.set_cons_succ]
          refine take_at (i := 4) (v := ?_) 43 rfl rfl (by kernel_rfl) (by kernel_rfl) (by kernel_rfl) (by kernel_rfl) (by kernel_rfl) (by kernel_rfl) (by kernel_rfl) (fun _ _ _ h => h) (Or.inl ⟨by kernel_rfl, ?_⟩) hHeld ?_
          rotate_left
          · intro w hSw; (try dsimp only at hSw); (try obtain ⟨f0, f1, f2⟩ := hSw); go_simp; (try with_reducible rfl)
          try simp only [Act.put, List.setIfInBounds_toArray, List.set_cons_zero, List.set_cons_succ]
          refine take_at (i := 5) (v := ?_) 44 rfl rfl (by kernel_rfl) (by kernel_rfl) (by kernel_rfl) (by kernel_rfl) (by kernel_rfl) (by kernel_rfl) (by kernel_rfl) (fun _ _ _ h => h) (Or.inl ⟨by kernel_rfl, ?_⟩) hHeld ?_
          rotate_left
          · intro w hSw; (try dsimp only at hSw); (try obtain ⟨f0, f1, f2⟩ := hSw); go_simp; (try with_reducible rfl)
          try simp only [Act.put, List.setIfInBounds_toArray, List.set_cons_zero, List.set_cons_succ]
          refine Ord.wpAnyU_one (i := 6) (by kernel_rfl) rfl (fun K hK => ?_)
          rw [if_pos (by rfl)]
          refine one_upd (.tmp 42) (.tmp 43) (.tmp 44) rfl rfl m n (del s.data.toList r3.files) hn rfl HO5.out t rfl ht f.by' f.sure rfl ?_
          intro w6 ho6 hg6
          have HP6 := Lib.hid (PD.put (w := w5.drew) (w' := w6) (d := { r3 with files := del s.data.toList r3.files }) ⟨World.rowIs.drew HP5.out.row, HO5.out, HP5.out.ne⟩ ho6 hg6)
          have HG6 := Lib.hid hg6
          clear ho6 hg6
          refine hK.out _ _ (fun h => by cases h) ?_
          clear hK K
          try simp only [Act.put, List.setIfInBounds_toArray, List.set_cons_zero, List.set_cons_succ]
          refine Ord.wpAnyU_done (by kernel_rfl) ?_ _
          go_wp2
          go_ret
          exact ⟨rfl, HP6.out, (Bx.below (below_al HB3.out _)).trans ((Bx.grown HG4.out fun k e => Or.inl (Option.some.inj e).symm).trans ((Bx.grown HG5.out fun k e => Or.inr (Option.some.inj e).symm).trans (Bx.grown (a := w5) ⟨HG6.out.os, HG6.out.tape, HG6.out.output, HG6.out.size, HG6.out.block⟩ fun k e => Or.inr (Option.some.inj e).symm)))⟩
        | false =>
          rw [if_neg (by decide)]
          go_enter Try.func12, Try.ntmps12
          go_wp2_with (first | (go_at_call 26; (with_reducible refine (CW.out _ HP.out).mono ?_); rintro e w1 ⟨rfl, rfl⟩) | (go_at_call 27; (with_reducible refine (CN.out _).mono ?_); rintro e w2 ⟨rfl, hb2⟩; have HB1 := Lib.hid hb2; have HP1 := Lib.hid (HP.out.below hb2); clear hb2) | (go_at_call 29; (with_reducible refine (CT.out _ HP1.out).mono ?_); rintro e w3 ⟨rfl, hb3⟩; have HP3 := Lib.hid ((HP1.out.below hb3).below (below_al (Below.refl w3.heap.size w3) (.cells #[.string ⟨f.by'.toArray⟩, .int .i64 f.sure] 63))); have HB3 := Lib.hid (below2 HB1.out hb3); have hmw := HP.out.lt; have hsz3 : w.heap.size ≤ w3.heap.size := HB3.out.size; obtain ⟨hc, hcs⟩ : (w3.alloc (.cells #[.string ⟨f.by'.toArray⟩, .int .i64 f.sure] 63)).cell? ⟨w3.heap.size, 0, none⟩ = some (.string ⟨f.by'.toArray⟩) ∧ (w3.alloc (.cells #[.string ⟨f.by'.toArray⟩, .int .i64 f.sure] 63)).cell? ⟨w3.heap.size, 1, none⟩ = some (.int .i64 f.sure) := ⟨(by rw [World.cell?_alloc_at _ _ _ _ (by simp)]; rfl), (by rw [World.cell?_alloc_at _ _ _ _ (by simp)]; rfl)⟩; clear hb3) | (go_at_call 28; (refine (CB.out _ HP3.out).mono ?_); rintro e w4 ⟨rfl, HP4, HG4⟩; obtain ⟨p0, -⟩ := HP4.out.cells))
          go_ret
          exact ⟨rfl, up HP4.out, (Bx.below (below_al HB3.out _)).trans (Bx.grown HG4.out fun k e => Or.inl (Option.some.inj e).symm)⟩
end Dsk
end Go.Proofs.Ytnbmjbelmcibgaa
