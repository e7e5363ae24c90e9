/- What is made sure: the walk. -/
import Derived.Test.YtnbmjbelmcibgaaDskT
import Derived.Deep.DeepMust
import Derived.Deep.LoopGhost
import Derived.Deep.Cut
set_option linter.unusedSimpArgs false
set_option linter.unusedVariables false
namespace Go.Proofs.Ytnbmjbelmcibgaa
open Go.RowKit Go.Great Go.Maps
namespace Dsk
/-- A load is taken first; the place that it writes is named. -/
theorem take_at {P : Program} {ops : Array Oper} {Q : Exit → Act → World → Prop} {md : Region.Mode} {S : World → Prop} {l : List Nat} {i : Nat} {oi : Oper} {v : Value} {fuel : Nat} {listed : Array Bool} {a : Act} {w : World} (t : Tmp) (hi : ops[i]? = some oi) (ht : oi.dst = some t)
    (hs : Region.noSelect ops = true) (hf : Region.free md ops listed i = true) (hr : (Region.ready md ops listed).contains i = true)
    (hd : l.all (fun j => (Ord.desc md ops i).contains j) = true) (hw : Ord.waits md ops (Ord.among (Ord.desc md ops i)) i = true) (hl : (Ord.desc md ops i).all (fun j => decide (j < listed.size)) = true) (ha : Ord.ahead (Ord.among (Ord.desc md ops i)) listed.size listed = true)
    (hQ : ∀ c a w, Q (.panic c) (a.put oi.dst v) w → Q (.panic c) a w) (hy : YieldsIf P ops S oi v a) (hS : S w)
    (h : Ord.wpAnyU P md ops Q S (Ord.among l) fuel (listed.setIfInBounds i true) (a.put (some t) v) w) : Ord.wpAnyU P md ops Q S (Ord.among l) (fuel + 1) listed a w :=
  Ord.wpAnyU_take hi hs hf hr hd hw hl ha hQ hy hS (by rw [ht]; exact h)

/-- A file is put into the map, in a region that draws its order. -/
theorem one_upd {o : Oper} {a : Act} {w : World} {K : Act → World → Prop} {Q : Exit → Act → World → Prop} (m x v : Operand) (hop : o.op = Op.mapUpdate 55 m x v) (hd : o.dst = none) (b n : Nat) (l : List FileIn) (hn : n < 1000000)
    (hm : a.eval m = .map (some b)) (hown : w.ownsMap Try.prog 9 fileElem b n (datum l)) (s : ByteArray) (hx : a.eval x = .string s) (hs : s.size ≤ 1000000000) (c : List UInt8) (k : Nat) (hv : a.eval v = .agg #[.string ⟨c.toArray⟩, .int .i64 (k : Int)])
    (hK : ∀ w', w'.ownsMap Try.prog 9 fileElem b (n + 1) (datum (putF ⟨s.data.toList, c, k⟩ l)) → w.grownBy w' (some b) → K a w') : o.wp Try.prog a w K Q := by
  obtain ⟨w', hrun, r1, r2⟩ := hown.update law Try.underlying55 (by unfold maxLen; omega) (WideMaps.keyOf_string_mk Try.underlying9 (s := s) (by unfold maxLen; omega)) (fileElem_mk c k s.data.toList)
  rw [datum_put ⟨s.data.toList, c, k⟩ l] at r1
  unfold Oper.wp
  simp [execOp, hop, hm, hx, hv, hrun, Result.andThen]
  show K (a.put o.dst undef) w'
  rw [hd]
  exact hK w' r1 r2
theorem PD.put {w w' : World} {g m n n' : Nat} {d : DkIn} {l : List FileIn} (h : PD w g m n d) (ho : w'.ownsMap Try.prog 9 fileElem m n' (datum l)) (hg : w.grownBy w' (some m)) : PD w' g m n' { d with files := l } :=
  ⟨h.row.of_block (hg.block g h.lt.1 fun e => h.ne (Option.some.inj e)), ho, h.ne⟩
theorem Dok.op {d : DkIn} (h : Dok d) (hs : d.ops < 1000000000) : Dok (opV d).2.2 := by
  refine ⟨by rw [op_files]; exact h.fok, by rw [op_room]; exact h.room, ?_, ?_⟩
  · have := h.ops
    unfold opV
    dsimp only
    split
    · show 0 ≤ d.ops + 1 ∧ d.ops + 1 ≤ 1000000000
      omega
    · split
      · show 0 ≤ d.ops + 1 ∧ d.ops + 1 ≤ 1000000000
        omega
      · show 0 ≤ d.ops + 1 ∧ d.ops + 1 ≤ 1000000000
        omega
  · have := h.last
    unfold opV
    dsimp only
    split
    · exact h.last
    · split
      · show 0 ≤ d.last - 1 ∧ d.last - 1 ≤ _
        omega
      · show 0 ≤ d.last - 1 ∧ d.last - 1 ≤ _
        omega
/-- Of the blocks that were there none has turned but those of a disk. -/
structure Bx (g m : Nat) (a b : World) : Prop where
  os : b.os = a.os
  tape : b.tape = a.tape
  output : b.output = a.output
  size : a.heap.size ≤ b.heap.size
  block : ∀ k, k < a.heap.size → k ≠ g → k ≠ m → b.heap[k]? = a.heap[k]?
theorem Bx.below {g m : Nat} {a b : World} (h : Below a.heap.size a b) : Bx g m a b := ⟨h.os, h.tape, h.output, h.size, fun k hk _ _ => h.block k hk⟩
theorem Bx.refl (g m : Nat) (a : World) : Bx g m a a := ⟨rfl, rfl, rfl, Nat.le_refl _, fun _ _ _ _ => rfl⟩
theorem Bx.trans {g m : Nat} {a b c : World} (h : Bx g m a b) (h2 : Bx g m b c) : Bx g m a c :=
  ⟨h2.os.trans h.os, h2.tape.trans h.tape, h2.output.trans h.output, Nat.le_trans h.size h2.size, fun k hk h3 h4 => (h2.block k (Nat.lt_of_lt_of_le hk h.size) h3 h4).trans (h.block k hk h3 h4)⟩
theorem Bx.grown {g m : Nat} {a b : World} {o : Option Nat} (h : a.grownBy b o) (ho : ∀ k, o = some k → k = g ∨ k = m) : Bx g m a b :=
  ⟨h.os, h.tape, h.output, h.size, fun k hk h3 h4 => h.block k hk fun e => by rcases ho k e.symm with e | e; exact h3 e; exact h4 e⟩
set_option maxRecDepth 100000 in
set_option maxHeartbeats 2000000 in
theorem sync_any (w : World) (g m n : Nat) (d : DkIn) (h : PD w g m n d) (hd : Dok d) (hn : n < 1000000) (s : ByteArray) (hs : s.size ≤ 1000000000) : Calls Try.prog 10 #[.pointer (some ⟨g, 0, none⟩), .string s] w fun e w' => e = .returned (.int .i64 (syncV d s.data.toList).1) ∧ Hid (PD w' g m (n + 1) (syncV d s.data.toList).2) ∧ Hid (Bx g m w w') := by
  have CT : Hid (Calls Try.prog 29 #[.pointer (some ⟨g, 0, none⟩), .string s] w fun e w' => e = .returned (.tuple #[.agg #[.string ⟨(thereV d s.data.toList).1.by'.toArray⟩, .int .i64 (thereV d s.data.toList).1.sure], .int .i64 (thereV d s.data.toList).2]) ∧ Below w.heap.size w w') := there_any w g m n d h s hs
  have CB : Hid (∀ W, PD W g m n d → Calls Try.prog 28 #[.pointer (some ⟨g, 0, none⟩)] W fun e w' => e = .returned (.tuple #[.bool (opV d).1, .int .i64 (opV d).2.1]) ∧ Hid (PD w' g m n (opV d).2.2) ∧ Hid (W.grownBy w' (some g))) := fun W h => begins_any W g m n d h hd
  have HP := Lib.hid h
  have up : ∀ {W : World} {d : DkIn}, PD W g m n d → PD W g m (n + 1) d := fun h => ⟨h.row, h.own.mono (by omega), h.ne⟩
  clear h
  by_cases ht : (thereV d s.data.toList).2 = 0
  · obtain ⟨f, hf, e1, e2⟩ : ∃ f, find s.data.toList d.files = some f ∧ thereV d s.data.toList = (f, 0) ∧ d.dead = false := by
      unfold thereV at ht ⊢
      cases hdd : d.dead with
      | true => rw [hdd] at ht; cases ht
      | false =>
        cases hff : find s.data.toList d.files with
        | none => rw [hdd, hff] at ht; cases ht
        | some f => exact ⟨f, rfl, rfl, rfl⟩
    have e3 : syncV d s.data.toList = ((opV d).2.1, if (opV d).1 then { (opV d).2.2 with files := putF ⟨s.data.toList, f.by', f.by'.length⟩ (opV d).2.2.files } else (opV d).2.2) := by
      unfold syncV
      rw [e2, if_neg (by decide), hf]
    rw [e3]
    rw [e1] at CT
    clear e3 e1 ht hf
    obtain ⟨r, hr⟩ : ∃ r, Hid (opV d = r) := ⟨_, rfl⟩
    rw [hr.out] at CB ⊢
    clear hr
    obtain ⟨r1, r2, r3⟩ := r
    dsimp only at CB ⊢
    cases r1 with
    | true =>
      rw [if_pos rfl]
      go_enter Try.func10, Try.ntmps10
      go_upto_region 6 with (first
        | (go_at_call 29; (with_reducible refine CT.out.mono ?_); rintro e w1 ⟨rfl, hb1⟩; have HB1 := Lib.hid hb1; have HP2 := Lib.hid ((HP.out.below hb1).below (below_al (Below.refl w1.heap.size w1) (.cells #[.string ⟨f.by'.toArray⟩, .int .i64 f.sure] 63))); have hc : (w1.alloc (.cells #[.string ⟨f.by'.toArray⟩, .int .i64 f.sure] 63)).cell? ⟨w1.heap.size, 0, none⟩ = some (.string ⟨f.by'.toArray⟩) := (by rw [World.cell?_alloc_at _ _ _ _ (by simp)]; rfl); have hmw := HP.out.lt; have hsz1 : w.heap.size ≤ w1.heap.size := HB1.out.size; clear hb1)
        | (go_at_call 28; (refine (CB.out _ HP2.out).mono ?_); rintro e w3 ⟨rfl, HP3, HG3⟩))
      have hgn : g ≠ w1.heap.size := by omega
      have hc3 : w3.cell? ⟨w1.heap.size, 0, none⟩ = some (.string ⟨f.by'.toArray⟩) := by
        unfold World.cell? at hc ⊢
        rw [HG3.out.block w1.heap.size (by simp) (fun e => hgn (Option.some.inj e).symm)]
        exact hc
      obtain ⟨c0, -⟩ := HP3.out.cells
      have hHeld : w3.drew.cell? ⟨g, 0, none⟩ = some (.map (some m)) ∧ w3.drew.cell? ⟨w1.heap.size, 0, none⟩ = some (.string ⟨f.by'.toArray⟩) := ⟨c0, hc3⟩
      have HO3 : Hid (w3.drew.ownsMap Try.prog 9 fileElem m n (datum r3.files)) := HP3.out.own.drew
      clear c0 hc hc3
      refine Ord.wp_region_U (fun W' => W'.cell? ⟨g, 0, none⟩ = some (.map (some m)) ∧ W'.cell? ⟨w1.heap.size, 0, none⟩ = some (.string ⟨f.by'.toArray⟩)) [11] (by kernel_rfl) ?_
      refine take_at (i := 0) (v := ?_) 23 rfl rfl (by kernel_rfl) (by kernel_rfl) (by kernel_rfl) (by kernel_rfl) (by kernel_rfl) (by kernel_rfl) (by kernel_rfl) (fun _ _ _ h => h) (Or.inl ⟨by kernel_rfl, ?_⟩) hHeld ?_
      rotate_left
      · intro w hSw; (try dsimp only at hSw); (try obtain ⟨f0, f1⟩ := hSw); go_simp; (try with_reducible rfl)
      try simp only [Act.put, List.setIfInBounds_toArray, List.set_cons_zero, List.set_cons_succ]
      refine take_at (i := 1) (v := ?_) 24 rfl rfl (by kernel_rfl) (by kernel_rfl) (by kernel_rfl) (by kernel_rfl) (by kernel_rfl) (by kernel_rfl) (by kernel_rfl) (fun _ _ _ h => h) (Or.inl ⟨by kernel_rfl, ?_⟩) hHeld ?_
      rotate_left
      · intro w hSw; (try dsimp only at hSw); (try obtain ⟨f0, f1⟩ := hSw); go_simp; (try with_reducible rfl)
      try simp only [Act.put, List.setIfInBounds_toArray, List.set_cons_zero, List.set_cons_succ]
      refine take_at (i := 2) (v := ?_) 25 rfl rfl (by kernel_rfl) (by kernel_rfl) (by kernel_rfl) (by kernel_rfl) (by kernel_rfl) (by kernel_rfl) (by kernel_rfl) (fun _ _ _ h => h) (Or.inl ⟨by kernel_rfl, ?_⟩) hHeld ?_
      rotate_left
      · intro w hSw; (try dsimp only at hSw); (try obtain ⟨f0, f1⟩ := hSw); go_simp; (try with_reducible rfl)
      try simp only [Act.put, List.setIfInBounds_toArray, List.set_cons_zero, List.set_cons_succ]
      refine take_at (i := 3) (v := ?_) 26 rfl rfl (by kernel_rfl) (by kernel_rfl) (by kernel_rfl) (by kernel_rfl) (by kernel_rfl) (by kernel_rfl) (by kernel_rfl) (fun _ _ _ h => h) (Or.inl ⟨by kernel_rfl, ?_⟩) hHeld ?_
      rotate_left
      · intro w hSw; (try dsimp only at hSw); (try obtain ⟨f0, f1⟩ := hSw); go_simp; (try with_reducible rfl)
      try simp only [Act.put, List.setIfInBounds_toArray, List.set_cons_zero, List.set_cons_succ]
      refine take_at (i := 4) (v := ?_) 27 rfl rfl (by kernel_rfl) (by kernel_rfl) (by kernel_rfl) (by kernel_rfl) (by kernel_rfl) (by kernel_rfl) (by kernel_rfl) (fun _ _ _ h => h) (Or.inl ⟨by kernel_rfl, ?_⟩) hHeld ?_
      rotate_left
      · intro w hSw; (try dsimp only at hSw); (try obtain ⟨f0, f1⟩ := hSw); go_simp; (try with_reducible rfl)
      try simp only [Act.put, List.setIfInBounds_toArray, List.set_cons_zero, List.set_cons_succ]
      refine take_at (i := 5) (v := ?_) 28 rfl rfl (by kernel_rfl) (by kernel_rfl) (by kernel_rfl) (by kernel_rfl) (by kernel_rfl) (by kernel_rfl) (by kernel_rfl) (fun _ _ _ h => h) (Or.inl ⟨by kernel_rfl, ?_⟩) hHeld ?_
      rotate_left
      · intro w hSw; (try dsimp only at hSw); (try obtain ⟨f0, f1⟩ := hSw); go_simp; (try with_reducible rfl)
      try simp only [Act.put, List.setIfInBounds_toArray, List.set_cons_zero, List.set_cons_succ]
      refine take_at (i := 6) (v := ?_) 29 rfl rfl (by kernel_rfl) (by kernel_rfl) (by kernel_rfl) (by kernel_rfl) (by kernel_rfl) (by kernel_rfl) (by kernel_rfl) (fun _ _ _ h => h) (Or.inl ⟨by kernel_rfl, ?_⟩) hHeld ?_
      rotate_left
      · intro w hSw; (try dsimp only at hSw); (try obtain ⟨f0, f1⟩ := hSw); go_simp; (try with_reducible rfl)
      try simp only [Act.put, List.setIfInBounds_toArray, List.set_cons_zero, List.set_cons_succ]
      refine take_at (i := 7) (v := ?_) 30 rfl rfl (by kernel_rfl) (by kernel_rfl) (by kernel_rfl) (by kernel_rfl) (by kernel_rfl) (by kernel_rfl) (by kernel_rfl) (fun _ _ _ h => h) (Or.inl ⟨by kernel_rfl, ?_⟩) hHeld ?_
      rotate_left
      · intro w hSw; (try dsimp only at hSw); (try obtain ⟨f0, f1⟩ := hSw); go_simp; (try with_reducible rfl)
      try simp only [Act.put, List.setIfInBounds_toArray, List.set_cons_zero, List.set_cons_succ]
      refine take_at (i := 8) (v := ?_) 31 rfl rfl (by kernel_rfl) (by kernel_rfl) (by kernel_rfl) (by kernel_rfl) (by kernel_rfl) (by kernel_rfl) (by kernel_rfl) (fun _ _ _ h => h) (Or.inl ⟨by kernel_rfl, ?_⟩) hHeld ?_
      rotate_left
      · intro w hSw; (try dsimp only at hSw); (try obtain ⟨f0, f1⟩ := hSw); go_simp; (try with_reducible rfl)
      try simp only [Act.put, List.setIfInBounds_toArray, List.set_cons_zero, List.set_cons_succ]
      refine take_at (i := 9) (v := ?_) 32 rfl rfl (by kernel_rfl) (by kernel_rfl) (by kernel_rfl) (by kernel_rfl) (by kernel_rfl) (by kernel_rfl) (by kernel_rfl) (fun _ _ _ h => h) (Or.inl ⟨by kernel_rfl, ?_⟩) hHeld ?_
      rotate_left
      · intro w hSw; (try dsimp only at hSw); (try obtain ⟨f0, f1⟩ := hSw); go_simp; (try with_reducible rfl)
      try simp only [Act.put, List.setIfInBounds_toArray, List.set_cons_zero, List.set_cons_succ]
      refine take_at (i := 10) (v := ?_) 33 rfl rfl (by kernel_rfl) (by kernel_rfl) (by kernel_rfl) (by kernel_rfl) (by kernel_rfl) (by kernel_rfl) (by kernel_rfl) (fun _ _ _ h => h) (Or.inl ⟨by kernel_rfl, ?_⟩) hHeld ?_
      rotate_left
      · intro w hSw; (try dsimp only at hSw); (try obtain ⟨f0, f1⟩ := hSw); go_simp; (try with_reducible rfl)
      try simp only [Act.put, List.setIfInBounds_toArray, List.set_cons_zero, List.set_cons_succ]
      refine Ord.wpAnyU_one (i := 11) (by kernel_rfl) rfl (fun K hK => ?_)
      rw [if_pos (by rfl)]
      refine one_upd (.tmp 26) (.tmp 27) (.tmp 33) rfl rfl m n r3.files hn rfl HO3.out s rfl hs f.by' f.by'.length rfl ?_
      intro w4 ho4 hg4
      have HP4 := Lib.hid (PD.put (w := w3.drew) (w' := w4) (d := r3) ⟨World.rowIs.drew HP3.out.row, HO3.out, HP3.out.ne⟩ ho4 hg4)
      have HG4 := Lib.hid hg4
      clear ho4 hg4
      refine hK.out _ _ (fun h => by cases h) ?_
      clear hK K
      try simp only [Act.put, List.setIfInBounds_toArray, List.set_cons_zero, List.set_cons_succ]
      refine Ord.wpAnyU_done (by kernel_rfl) ?_ _
      go_wp2
      go_ret
      exact ⟨rfl, HP4.out, (Bx.below (below_al HB1.out _)).trans ((Bx.grown HG3.out fun k e => Or.inl (Option.some.inj e).symm).trans (Bx.grown (a := w3) ⟨HG4.out.os, HG4.out.tape, HG4.out.output, HG4.out.size, HG4.out.block⟩ fun k e => Or.inr (Option.some.inj e).symm))⟩
    | false =>
      rw [if_neg (by decide)]
      go_enter Try.func10, Try.ntmps10
      go_wp2_with (first
        | (go_at_call 29; (with_reducible refine CT.out.mono ?_); rintro e w1 ⟨rfl, hb1⟩; have HB1 := Lib.hid hb1; have HP2 := Lib.hid ((HP.out.below hb1).below (below_al (Below.refl w1.heap.size w1) (.cells #[.string ⟨f.by'.toArray⟩, .int .i64 f.sure] 63))); clear hb1)
        | (go_at_call 28; (refine (CB.out _ HP2.out).mono ?_); rintro e w3 ⟨rfl, HP3, HG3⟩))
      go_ret
      exact ⟨rfl, up HP3.out, (Bx.below (below_al HB1.out _)).trans (Bx.grown HG3.out fun k e => Or.inl (Option.some.inj e).symm)⟩
  · have e3 : syncV d s.data.toList = ((thereV d s.data.toList).2, d) := by
      unfold syncV thereV at *
      cases hdd : d.dead with
      | true => rfl
      | false =>
        cases hff : find s.data.toList d.files with
        | none => rfl
        | some f => rw [hdd, hff] at ht; exact absurd rfl ht
    rw [e3]
    generalize thereV d s.data.toList = T at *
    have dt : (T.2 != 0) = true := bne_iff_ne.2 ht
    go_enter Try.func10, Try.ntmps10
    go_wp2_with (go_at_call 29; (with_reducible refine CT.out.mono ?_); rintro e w1 ⟨rfl, hb1⟩; have HB1 := Lib.hid hb1; clear hb1)
    go_ret
    exact ⟨rfl, up ((HP.out.below HB1.out).below (below_al (Below.refl _ _) _)), Bx.below (below_al HB1.out _)⟩
end Dsk
end Go.Proofs.Ytnbmjbelmcibgaa
