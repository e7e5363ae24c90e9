/- Texts put together: DskY, DskZ, DskQ, DskF, DskH, DskG. -/
import Derived.Test.YteaikleofboknaaM01
import Derived.Deep.Cut
import Derived.Maps.RangeWalk
import Derived.Deep.DeepMust
import Derived.Deep.LoopGhost
set_option linter.all false
section
namespace Go.Proofs.Yteaikleofboknaa
open Go.RowKit Go.Great Go.Maps
namespace Dsk
/-- A file is struck out of the map. -/
theorem list_del {ops : Array Oper} {rest : List Oper} {o : Oper} {a : Act} {w : World} {Q : Exit → Act → World → Prop} (hg : o.guard = none) (m x : Operand) (hop : o.op = Op.call { callee := Callee.builtin Builtin.delete, args := #[m, x], argTypes := #[54, 9] }) (hd : o.dst = none) (b n : Nat) (l : List FileIn)
    (hm : a.eval m = .map (some b)) (hown : w.ownsMap Try.prog 9 fileElem b n (datum l)) (s : ByteArray) (hx : a.eval x = .string s) (hs : s.size ≤ 1000000000)
    (hK : ∀ w', w'.ownsMap Try.prog 9 fileElem b n (datum (del s.data.toList l)) → w.grownBy w' (some b) → wpList Try.prog ops Q rest a w') : wpList Try.prog ops Q (o :: rest) a w :=
  wpList_delete_own w hg m x 54 9 hop 82 law Try.underlying54 fileElem b n _ hm hown _ (.string s.data.toList) hx (WideMaps.keyOf_string_mk Try.underlying9 (by unfold maxLen; omega)) fun w' r1 r2 => by
    rw [datum_del] at r1
    rw [hd]
    exact hK w' r1 r2.grown
set_option maxRecDepth 100000 in
set_option maxHeartbeats 4000000 in
theorem rename_any (w : World) (g m n : Nat) (d : DkIn) (h : PD w g m n d) (hd : Dok d) (hn : n < 1000000) (s t : ByteArray) (hs : s.size ≤ 1000000000) (ht : t.size ≤ 1000000000) : Calls Try.prog 41 #[.pointer (some ⟨g, 0, none⟩), .string s, .string t] w fun e w' => e = .returned (.int .i64 (renameV d s.data.toList t.data.toList).1) ∧ Hid (PD w' g m (n + 1) (renameV d s.data.toList t.data.toList).2) ∧ Hid (Bx g m w w') := by
  have HP := Lib.hid h
  have CW : Hid (∀ W, PD W g m n d → Calls Try.prog 45 #[.pointer (some ⟨g, 0, none⟩)] W fun e w' => e = .returned (.int .i64 (if d.dead then 14 else 0)) ∧ W = w') := fun W h => wakes_any W g m n d h
  have CN : Hid (∀ W, Calls Try.prog 59 #[.string t] W fun e w' => e = .returned (.bool (isName t.data.toList)) ∧ Below W.heap.size W w') := fun W => name_any t ht W
  have CT : Hid (∀ W, PD W g m n d → Calls Try.prog 48 #[.pointer (some ⟨g, 0, none⟩), .string s] W fun e w' => e = .returned (.tuple #[.agg #[.string ⟨(thereV d s.data.toList).1.by'.toArray⟩, .int .i64 (thereV d s.data.toList).1.sure], .int .i64 (thereV d s.data.toList).2]) ∧ Below W.heap.size W w') := fun W h => there_any W g m n d h s hs
  have CB : Hid (∀ W, PD W g m n d → Calls Try.prog 57 #[.pointer (some ⟨g, 0, none⟩)] W fun e w' => e = .returned (.tuple #[.bool (opV d).1, .int .i64 (opV d).2.1]) ∧ Hid (PD w' g m n (opV d).2.2) ∧ Hid (W.grownBy w' (some g))) := fun W h => begins_any W g m n d h hd
  have up : ∀ {W : World} {d : DkIn}, PD W g m n d → PD W g m (n + 1) d := fun h => ⟨h.row, h.own.mono (by omega), h.ne⟩
  clear h
  cases hdd : d.dead with
  | true =>
    have e3 : renameV d s.data.toList t.data.toList = (14, d) := by unfold renameV; rw [hdd, if_pos rfl]
    rw [e3]
    rw [hdd] at CW
    go_enter Try.func41, Try.ntmps41
    go_wp2_with ((go_at_call 45; (with_reducible refine (CW.out _ HP.out).mono ?_); rintro e w1 ⟨rfl, rfl⟩))
    go_ret
    exact ⟨rfl, up HP.out, Bx.refl _ _ _⟩
  | false =>
    rw [hdd] at CW
    cases hnm : isName t.data.toList with
    | false =>
      have e3 : renameV d s.data.toList t.data.toList = (1, d) := by unfold renameV; rw [hdd, if_neg (by decide), if_pos hnm]
      rw [e3]
      rw [hnm] at CN
      go_enter Try.func41, Try.ntmps41
      go_wp2_with (first | (go_at_call 45; (with_reducible refine (CW.out _ HP.out).mono ?_); rintro e w1 ⟨rfl, rfl⟩) | (go_at_call 59; (with_reducible refine (CN.out _).mono ?_); rintro e w2 ⟨rfl, hb2⟩; have HB1 := Lib.hid hb2; have HP1 := Lib.hid (HP.out.below hb2); clear hb2))
      go_ret
      exact ⟨rfl, up HP1.out, Bx.below HB1.out⟩
    | true =>
      rw [hnm] at CN
      cases hf : find s.data.toList d.files with
      | none =>
        have e3 : renameV d s.data.toList t.data.toList = (3, d) := by unfold renameV; rw [hdd, if_neg (by decide), if_neg (by rw [hnm]; decide), hf]
        have e1 : thereV d s.data.toList = (⟨[], [], 0⟩, 3) := by unfold thereV; rw [hdd, hf]; rfl
        rw [e3]
        rw [e1] at CT
        clear e1 e3 hf
        go_enter Try.func41, Try.ntmps41
        go_wp2_with (first | (go_at_call 45; (with_reducible refine (CW.out _ HP.out).mono ?_); rintro e w1 ⟨rfl, rfl⟩) | (go_at_call 59; (with_reducible refine (CN.out _).mono ?_); rintro e w2 ⟨rfl, hb2⟩; have HB1 := Lib.hid hb2; have HP1 := Lib.hid (HP.out.below hb2); clear hb2) | (go_at_call 48; (refine (CT.out _ HP1.out).mono ?_); rintro e w3 ⟨rfl, hb3⟩; have HP3 := Lib.hid ((HP1.out.below hb3).below (below_al (Below.refl w3.heap.size w3) (.cells #[.string ⟨#[]⟩, .int .i64 0] 82))); have HB3 := Lib.hid (below2 HB1.out hb3); clear hb3))
        go_ret
        exact ⟨rfl, up HP3.out, Bx.below (below_al HB3.out _)⟩
      | some f =>
        have e3 : renameV d s.data.toList t.data.toList = ((opV d).2.1, if (opV d).1 then { (opV d).2.2 with files := putF { f with nm := t.data.toList } (del s.data.toList (opV d).2.2.files) } else (opV d).2.2) := by unfold renameV; rw [hdd, if_neg (by decide), if_neg (by rw [hnm]; decide), hf]
        have e1 : thereV d s.data.toList = (f, 0) := by unfold thereV; rw [hdd, hf]; rfl
        rw [e3]
        rw [e1] at CT
        clear e1 e3 hf
        obtain ⟨r, hr⟩ : ∃ r, Hid (opV d = r) := ⟨_, rfl⟩
        rw [hr.out] at CB ⊢
        clear hr
        obtain ⟨r1, r2, r3⟩ := r
        dsimp only at CB ⊢
        cases r1 with
        | true =>
          rw [if_pos rfl]
          go_enter Try.func41, Try.ntmps41
          go_upto_region 12 with (first
            | (go_at_call 45; (with_reducible refine (CW.out _ HP.out).mono ?_); rintro e w1 ⟨rfl, rfl⟩)
            | (go_at_call 59; (with_reducible refine (CN.out _).mono ?_); rintro e w2 ⟨rfl, hb2⟩; have HB1 := Lib.hid hb2; have HP1 := Lib.hid (HP.out.below hb2); clear hb2)
            | (go_at_call 48; (with_reducible refine (CT.out _ HP1.out).mono ?_); rintro e w3 ⟨rfl, hb3⟩; have HP3 := Lib.hid ((HP1.out.below hb3).below (below_al (Below.refl w3.heap.size w3) (.cells #[.string ⟨f.by'.toArray⟩, .int .i64 f.sure] 82))); have HB3 := Lib.hid (below2 HB1.out hb3); have hmw := HP.out.lt; have hsz3 : w.heap.size ≤ w3.heap.size := HB3.out.size; obtain ⟨hc, hcs⟩ : (w3.alloc (.cells #[.string ⟨f.by'.toArray⟩, .int .i64 f.sure] 82)).cell? ⟨w3.heap.size, 0, none⟩ = some (.string ⟨f.by'.toArray⟩) ∧ (w3.alloc (.cells #[.string ⟨f.by'.toArray⟩, .int .i64 f.sure] 82)).cell? ⟨w3.heap.size, 1, none⟩ = some (.int .i64 f.sure) := ⟨(by rw [World.cell?_alloc_at _ _ _ _ (by simp)]; rfl), (by rw [World.cell?_alloc_at _ _ _ _ (by simp)]; rfl)⟩; clear hb3)
            | (go_at_call 57; (refine (CB.out _ HP3.out).mono ?_); rintro e w4 ⟨rfl, HP4, HG4⟩; obtain ⟨p0, -⟩ := HP4.out.cells)
            | (at_delete; refine list_del rfl (.tmp 37) (.tmp 38) rfl rfl m n r3.files rfl HP4.out.own s rfl hs ?_; intro w5 ho5 hg5; have HP5 := Lib.hid (PD.put HP4.out ho5 hg5); have HG5 := Lib.hid hg5; clear ho5 hg5))
          have hgn : g ≠ w3.heap.size := by omega
          have hmn : m ≠ w3.heap.size := by omega
          have hc3 : w5.cell? ⟨w3.heap.size, 0, none⟩ = some (.string ⟨f.by'.toArray⟩) := by
            unfold World.cell? at hc ⊢
            rw [HG5.out.block w3.heap.size (Nat.lt_of_lt_of_le (by simp) HG4.out.size) (fun e => hmn (Option.some.inj e).symm), HG4.out.block w3.heap.size (by simp) (fun e => hgn (Option.some.inj e).symm)]
            exact hc
          have hd3 : w5.cell? ⟨w3.heap.size, 1, none⟩ = some (.int .i64 f.sure) := by
            unfold World.cell? at hcs ⊢
            rw [HG5.out.block w3.heap.size (Nat.lt_of_lt_of_le (by simp) HG4.out.size) (fun e => hmn (Option.some.inj e).symm), HG4.out.block w3.heap.size (by simp) (fun e => hgn (Option.some.inj e).symm)]
            exact hcs
          obtain ⟨c0, -⟩ := HP5.out.cells
          have hHeld : w5.drew.cell? ⟨g, 0, none⟩ = some (.map (some m)) ∧ w5.drew.cell? ⟨w3.heap.size, 0, none⟩ = some (.string ⟨f.by'.toArray⟩) ∧ w5.drew.cell? ⟨w3.heap.size, 1, none⟩ = some (.int .i64 f.sure) := ⟨c0, hc3, hd3⟩
          have HO5 : Hid (w5.drew.ownsMap Try.prog 9 fileElem m n (datum (del s.data.toList r3.files))) := HP5.out.own.drew
          clear c0 hc hc3 hd3 hcs p0
          refine Ord.wp_region_U (fun W' => W'.cell? ⟨g, 0, none⟩ = some (.map (some m)) ∧ W'.cell? ⟨w3.heap.size, 0, none⟩ = some (.string ⟨f.by'.toArray⟩) ∧ W'.cell? ⟨w3.heap.size, 1, none⟩ = some (.int .i64 f.sure)) [6] (by kernel_rfl) ?_
          refine take_at (i := 0) (v := ?_) 39 rfl rfl (by kernel_rfl) (by kernel_rfl) (by kernel_rfl) (by kernel_rfl) (by kernel_rfl) (by kernel_rfl) (by kernel_rfl) (fun _ _ _ h => h) (Or.inl ⟨by kernel_rfl, ?_⟩) hHeld ?_
          rotate_left
          · intro w hSw; (try dsimp only at hSw); (try obtain ⟨f0, f1, f2⟩ := hSw); go_simp; (try with_reducible rfl)
          try simp only [Act.put, List.setIfInBounds_toArray, List.set_cons_zero, List.set_cons_succ]
          refine take_at (i := 1) (v := ?_) 40 rfl rfl (by kernel_rfl) (by kernel_rfl) (by kernel_rfl) (by kernel_rfl) (by kernel_rfl) (by kernel_rfl) (by kernel_rfl) (fun _ _ _ h => h) (Or.inl ⟨by kernel_rfl, ?_⟩) hHeld ?_
          rotate_left
          · intro w hSw; (try dsimp only at hSw); (try obtain ⟨f0, f1, f2⟩ := hSw); go_simp; (try with_reducible rfl)
          try simp only [Act.put, List.setIfInBounds_toArray, List.set_cons_zero, List.set_cons_succ]
          refine take_at (i := 2) (v := ?_) 41 rfl rfl (by kernel_rfl) (by kernel_rfl) (by kernel_rfl) (by kernel_rfl) (by kernel_rfl) (by kernel_rfl) (by kernel_rfl) (fun _ _ _ h => h) (Or.inl ⟨by kernel_rfl, ?_⟩) hHeld ?_
          rotate_left
          · intro w hSw; (try dsimp only at hSw); (try obtain ⟨f0, f1, f2⟩ := hSw); go_simp; (try with_reducible rfl)
          try simp only [Act.put, List.setIfInBounds_toArray, List.set_cons_zero, List.set_cons_succ]
          refine take_at (i := 3) (v := ?_) 42 rfl rfl (by kernel_rfl) (by kernel_rfl) (by kernel_rfl) (by kernel_rfl) (by kernel_rfl) (by kernel_rfl) (by kernel_rfl) (fun _ _ _ h => h) (Or.inl ⟨by kernel_rfl, ?_⟩) hHeld ?_
          rotate_left
          · intro w hSw; (try dsimp only at hSw); (try obtain ⟨f0, f1, f2⟩ := hSw); go_simp; (try with_reducible rfl)
          try simp only [Act.put, List.setIfInBounds_toArray, List.set_cons_zero, List.set_cons_succ]
          refine take_at (i := 4) (v := ?_) 43 rfl rfl (by kernel_rfl) (by kernel_rfl) (by kernel_rfl) (by kernel_rfl) (by kernel_rfl) (by kernel_rfl) (by kernel_rfl) (fun _ _ _ h => h) (Or.inl ⟨by kernel_rfl, ?_⟩) hHeld ?_
          rotate_left
          · intro w hSw; (try dsimp only at hSw); (try obtain ⟨f0, f1, f2⟩ := hSw); go_simp; (try with_reducible rfl)
          try simp only [Act.put, List.setIfInBounds_toArray, List.set_cons_zero, List.set_cons_succ]
          refine take_at (i := 5) (v := ?_) 44 rfl rfl (by kernel_rfl) (by kernel_rfl) (by kernel_rfl) (by kernel_rfl) (by kernel_rfl) (by kernel_rfl) (by kernel_rfl) (fun _ _ _ h => h) (Or.inl ⟨by kernel_rfl, ?_⟩) hHeld ?_
          rotate_left
          · intro w hSw; (try dsimp only at hSw); (try obtain ⟨f0, f1, f2⟩ := hSw); go_simp; (try with_reducible rfl)
          try simp only [Act.put, List.setIfInBounds_toArray, List.set_cons_zero, List.set_cons_succ]
          refine Ord.wpAnyU_one (i := 6) (by kernel_rfl) rfl (fun K hK => ?_)
          rw [if_pos (by rfl)]
          refine one_upd (.tmp 42) (.tmp 43) (.tmp 44) rfl rfl m n (del s.data.toList r3.files) hn rfl HO5.out t rfl ht f.by' f.sure rfl ?_
          intro w6 ho6 hg6
          have HP6 := Lib.hid (PD.put (w := w5.drew) (w' := w6) (d := { r3 with files := del s.data.toList r3.files }) ⟨World.rowIs.drew HP5.out.row, HO5.out, HP5.out.ne⟩ ho6 hg6)
          have HG6 := Lib.hid hg6
          clear ho6 hg6
          refine hK.out _ _ (fun h => by cases h) ?_
          clear hK K
          try simp only [Act.put, List.setIfInBounds_toArray, List.set_cons_zero, List.set_cons_succ]
          refine Ord.wpAnyU_done (by kernel_rfl) ?_ _
          go_wp2
          go_ret
          exact ⟨rfl, HP6.out, (Bx.below (below_al HB3.out _)).trans ((Bx.grown HG4.out fun k e => Or.inl (Option.some.inj e).symm).trans ((Bx.grown HG5.out fun k e => Or.inr (Option.some.inj e).symm).trans (Bx.grown (a := w5) ⟨HG6.out.os, HG6.out.tape, HG6.out.output, HG6.out.size, HG6.out.block⟩ fun k e => Or.inr (Option.some.inj e).symm)))⟩
        | false =>
          rw [if_neg (by decide)]
          go_enter Try.func41, Try.ntmps41
          go_wp2_with (first | (go_at_call 45; (with_reducible refine (CW.out _ HP.out).mono ?_); rintro e w1 ⟨rfl, rfl⟩) | (go_at_call 59; (with_reducible refine (CN.out _).mono ?_); rintro e w2 ⟨rfl, hb2⟩; have HB1 := Lib.hid hb2; have HP1 := Lib.hid (HP.out.below hb2); clear hb2) | (go_at_call 48; (with_reducible refine (CT.out _ HP1.out).mono ?_); rintro e w3 ⟨rfl, hb3⟩; have HP3 := Lib.hid ((HP1.out.below hb3).below (below_al (Below.refl w3.heap.size w3) (.cells #[.string ⟨f.by'.toArray⟩, .int .i64 f.sure] 82))); have HB3 := Lib.hid (below2 HB1.out hb3); have hmw := HP.out.lt; have hsz3 : w.heap.size ≤ w3.heap.size := HB3.out.size; obtain ⟨hc, hcs⟩ : (w3.alloc (.cells #[.string ⟨f.by'.toArray⟩, .int .i64 f.sure] 82)).cell? ⟨w3.heap.size, 0, none⟩ = some (.string ⟨f.by'.toArray⟩) ∧ (w3.alloc (.cells #[.string ⟨f.by'.toArray⟩, .int .i64 f.sure] 82)).cell? ⟨w3.heap.size, 1, none⟩ = some (.int .i64 f.sure) := ⟨(by rw [World.cell?_alloc_at _ _ _ _ (by simp)]; rfl), (by rw [World.cell?_alloc_at _ _ _ _ (by simp)]; rfl)⟩; clear hb3) | (go_at_call 57; (refine (CB.out _ HP3.out).mono ?_); rintro e w4 ⟨rfl, HP4, HG4⟩; obtain ⟨p0, -⟩ := HP4.out.cells))
          go_ret
          exact ⟨rfl, up HP4.out, (Bx.below (below_al HB3.out _)).trans (Bx.grown HG4.out fun k e => Or.inl (Option.some.inj e).symm)⟩
end Dsk
end Go.Proofs.Yteaikleofboknaa
end
section
namespace Go.Proofs.Yteaikleofboknaa
open Go.RowKit Go.Great Go.Maps
namespace Dsk
/-- The bytes of the files that are still to come. -/
def toCome (left : Lit → Bool) (l : List FileIn) : Nat := bytesOf (l.filter fun f => left (.string f.nm))
theorem come_all {l : List FileIn} (h : Fok l) : toCome (Maps.has (datum l)) l = bytesOf l := by
  unfold toCome
  congr 1
  rw [List.filter_eq_self]
  intro f hf
  rw [datum_has, (find_some h.rise f.nm f).2 ⟨hf, rfl⟩]
  rfl
theorem come_none {left : Lit → Bool} (h : ∀ kl, left kl = false) (l : List FileIn) : toCome left l = 0 := by
  unfold toCome
  rw [List.filter_eq_nil_iff.2 fun f _ => by rw [h]; decide]
  rfl
theorem same_str (a b : List UInt8) : (Lit.string a).sameKey (.string b) = decide (a = b) := by
  show (a == b) = decide (a = b)
  by_cases h : a = b
  · simp [h]
  · simp [h]
theorem come_step (left : Lit → Bool) : ∀ {l : List FileIn}, (l.Pairwise fun a b => bytesBefore a.nm b.nm = true) → ∀ f ∈ l, left (.string f.nm) = true → toCome left l = f.by'.length + toCome (fun z => left z && !z.sameKey (.string f.nm)) l
  | [], _, f, hf, _ => by cases hf
  | x :: l, h, f, hf, hl => by
    obtain ⟨h1, h2⟩ := List.pairwise_cons.1 h
    rcases List.mem_cons.1 hf with rfl | hf
    · have e : l.filter (fun g => left (.string g.nm)) = l.filter (fun g => left (.string g.nm) && !(Lit.string g.nm).sameKey (.string f.nm)) := by
        apply List.filter_congr
        intro g hg
        have hne : g.nm ≠ f.nm := fun e => by
          have := h1 g hg
          rw [e, WideAt.bytes_irrefl] at this
          cases this
        rw [same_str, decide_eq_false hne]
        simp
      unfold toCome
      rw [List.filter_cons_of_pos (by simpa using hl), List.filter_cons_of_neg (by show ¬ (left (.string f.nm) && !(Lit.string f.nm).sameKey (.string f.nm)) = true; rw [same_str, decide_eq_true rfl]; simp), ← e]
      simp [bytesOf]
    · have ih := come_step left h2 f hf hl
      have hne : x.nm ≠ f.nm := fun e => by
        have := h1 f hf
        rw [e, WideAt.bytes_irrefl] at this
        cases this
      unfold toCome at ih ⊢
      have e2 : (left (.string x.nm) && !(Lit.string x.nm).sameKey (.string f.nm)) = left (.string x.nm) := by
        rw [same_str, decide_eq_false hne]
        simp
      cases hx : left (.string x.nm) with
      | true =>
        rw [List.filter_cons_of_pos (by simpa using hx), List.filter_cons_of_pos (by show (left (.string x.nm) && !(Lit.string x.nm).sameKey (.string f.nm)) = true; rw [e2]; exact hx)]
        unfold bytesOf at ih ⊢
        rw [List.map_cons, List.sum_cons, List.map_cons, List.sum_cons, ih]
        omega
      | false =>
        rw [List.filter_cons_of_neg (by rw [hx]; decide), List.filter_cons_of_neg (by show ¬ (left (.string x.nm) && !(Lit.string x.nm).sameKey (.string f.nm)) = true; rw [e2, hx]; decide)]
        exact ih
/-- An entry that comes is a file. -/
theorem entry_file {l : List FileIn} {s : List UInt8} {y : DataW Unit × List MemPlace} (h : ∀ zd, (datum l).atKey (.string s) zd = y.1) : ∃ f, find s l = some f ∧ y.1 = encF f := by
  cases hf : find s l with
  | some f =>
    refine ⟨f, rfl, ?_⟩
    rw [← h (.lit (.bool true)), datum_at, hf]
  | none =>
    have h1 := h (.lit (.bool true))
    have h2 := h (.lit (.bool false))
    rw [datum_at, hf] at h1 h2
    rw [← h2] at h1
    cases h1
end Dsk
end Go.Proofs.Yteaikleofboknaa
end
section
namespace Go.Proofs.Yteaikleofboknaa
open Go.RowKit Go.Great Go.Maps
namespace Dsk
theorem key_inv {key : Value} {kl : Lit} (h : keyOf Try.prog 9 key = some kl) : ∃ x : ByteArray, key = .string x ∧ kl = .string x.data.toList := by
  cases key <;> simp [keyOf, Try.underlying9, mapKey] at h
  exact ⟨_, rfl, h.2.symm⟩
def mkV (c : ByteArray × Int) : Value := .agg #[.string c.1, .int .i64 c.2]
theorem elem_inv {v : Value} {y : DataW Unit × List MemPlace} (h : fileElem v = some y) : ∃ c, v = mkV c ∧ y.1 = .agg [.lit (.string c.1.data.toList), .lit (.int .i64 c.2)] := by
  unfold fileElem at h
  split at h
  · rename_i cs
    split at h
    · rename_i s n e
      obtain ⟨l⟩ := cs
      dsimp only at e
      subst e
      exact ⟨(s, n), rfl, by rw [← Option.some.inj h]⟩
    · cases h
  · cases h
theorem enc_bytes {c : ByteArray × Int} {f : FileIn} (h : (.agg [.lit (.string c.1.data.toList), .lit (.int .i64 c.2)] : DataW Unit) = encF f) : c.1.data.toList = f.by' := by
  unfold encF at h
  injection h with h
  injection h with h3 h4
  injection h3 with h3
  injection h3 with h3
set_option maxRecDepth 100000 in
set_option maxHeartbeats 2000000 in
theorem used_any (w : World) (g m n : Nat) (d : DkIn) (h : PD w g m n d) (hd : Dok d) (hb : bytesOf d.files ≤ 1000000000) : Calls Try.prog 60 #[.pointer (some ⟨g, 0, none⟩)] w fun e w' => e = .returned (.int .i64 (usedV d)) ∧ Below w.heap.size w w' := by
  have HP := Lib.hid h
  have CW : Hid (Calls Try.prog 45 #[.pointer (some ⟨g, 0, none⟩)] w fun e w' => e = .returned (.int .i64 (if d.dead then 14 else 0)) ∧ w = w') := wakes_any w g m n d h
  obtain ⟨c0, -⟩ := h.cells
  clear h
  cases hdd : d.dead with
  | true =>
    have e : usedV d = 0 := by unfold usedV; rw [hdd]; rfl
    rw [e]
    rw [hdd] at CW
    go_enter Try.func60, Try.ntmps60
    go_wp2_with (go_at_call 45; (with_reducible refine CW.out.mono ?_); rintro e w1 ⟨rfl, rfl⟩)
    go_ret
    exact ⟨rfl, Below.refl _ _⟩
  | false =>
    have e : usedV d = (bytesOf d.files : Int) := by unfold usedV; rw [hdd]; rfl
    rw [e]
    rw [hdd] at CW
    have HF := Lib.hid hd.fok
    obtain ⟨B, hB⟩ : ∃ B, Hid (bytesOf d.files = B) := ⟨_, rfl⟩
    rw [hB.out] at hb ⊢
    go_enter Try.func60, Try.ntmps60
    go_wp2_with (first
      | (go_at_call 45; (with_reducible refine CW.out.mono ?_); rintro e w1 ⟨rfl, rfl⟩)
      | (at_range; refine wpList_range_own _ rfl (.tmp 12) 54 rfl 9 82 law Try.underlying54 fileElem m n _ rfl HP.out.own ?_; intro w0 hrg0 hg0 hs0))
    go_frame
    go_loopw [3] (fun v3 wr => ∃ (T : Nat) (left : Lit → Bool) (cnt : Nat), v3 = .int .i64 T ∧ Hid (T + toCome left d.files = B) ∧ Hid (wr.ranges Try.prog 9 fileElem m w.heap.size n (datum d.files) left cnt) ∧ Hid (Below w.heap.size w wr)) (fun _ wr => wr.rangeLeft m w.heap.size)
    case atStart => exact ⟨0, _, _, rfl, by show _ = _; rw [come_all HF.out, hB.out]; omega, hrg0, (Below.refl w.heap.size w).grown hg0 (Nat.le_refl _) (fun k e => by cases e)⟩
    case round =>
      obtain ⟨T, left, cnt, rfl, HS, HR, HBw⟩ := hrel
      go_wp2_with (at_next; refine wpList_next_ranges _ rfl (.tmp 13) rfl 9 law fileElem Value.string mkV (fun key kl h => by obtain ⟨x, e, -⟩ := key_inv h; exact ⟨x, e⟩) (fun v y h => by obtain ⟨c, e, -⟩ := elem_inv h; exact ⟨c, e⟩) m w.heap.size n _ left cnt rfl HR.out ?_ ?_)
      · intro _ hl0
        have hT : T = B := by have := HS.out; rw [come_none hl0] at this; omega
        clear hl0
        go_wp2
        go_ret
        exact ⟨by rw [hT]; rfl, HBw.out⟩
      · intro x c1 c2 kl y1 y2 w1 cnt1 hkey hleft helem hat hrg1 hlt hg1 hs1 hen
        obtain ⟨x', ex, ekl⟩ := key_inv hkey
        cases ex
        subst ekl
        obtain ⟨c', ec, ey⟩ := elem_inv helem
        obtain ⟨f, hf, ef⟩ := entry_file (y := (y1, y2)) hat
        have hc : c' = (c1, c2) := by
          unfold mkV at ec
          injection ec with ec
          injection ec with ec
          injection ec with e1 e2
          injection e2 with e2 _
          injection e1 with e1
          injection e2 with _ e2
          cases c'
          simp_all
        subst hc
        have hby := enc_bytes (ey.symm.trans ef)
        obtain ⟨hm1, hm2⟩ := (find_some HF.out.rise _ f).1 hf
        have hst := come_step left HF.out.rise f hm1 (by rw [hm2]; exact hleft)
        rw [hm2] at hst
        have hlen : c1.size = f.by'.length := by rw [← hby, Array.length_toList]; rfl
        have HS1 : Hid ((T + c1.size) + toCome (fun z => left z && !z.sameKey (.string x.data.toList)) d.files = B) := by
          show _ = _
          have := HS.out
          omega
        have hsmall : T + c1.size ≤ 1000000000 := by have := HS1.out; omega
        have HR1 := Lib.hid hrg1
        have HB1 : Hid (Below w.heap.size w w1) := HBw.out.grown hg1 HBw.out.size (fun k e => by cases e; exact Nat.le_refl _)
        have hcl : cnt = wr.rangeLeft m w.heap.size := HR.out.left_eq.symm
        unfold mkV at hen ⊢
        clear hkey hleft helem hat hrg1 ec ey ef hf hby hm1 hm2 hst hlen
        dsimp only at HS1 hsmall hen ⊢
        generalize c1 = cb at *
        generalize c2 = ci at *
        go_wp2
        go_roundw
        case rel => exact ⟨T + cb.size, _, _, by go_num, HS1, HR1.out.alloc _, below_al HB1.out _⟩
        case measure => rw [(HR1.out.alloc _).left_eq, ← hcl]; exact hlt
end Dsk
end Go.Proofs.Yteaikleofboknaa
end
section
namespace Go.Proofs.Yteaikleofboknaa
open Go.RowKit Go.Great Go.Maps
namespace Dsk
theorem PD.setHalf {w : World} {g m n : Nat} {d : DkIn} (h : PD w g m n d) (x : Bool) : PD (w.setCell ⟨g, 4, none⟩ (.bool x)) g m n { d with half := x } := by
  refine ⟨World.rowIs.congr (World.rowIs.set h.row 4 _) fun i hi => ?_, h.own.kept (w' := w.setCell ⟨g, 4, none⟩ (.bool x)) (row := some g) ⟨rfl, rfl, rfl, by simp, fun j hj hne => Below.heap_setCell _ _ _ _ fun e => hne (by rw [e])⟩ (fun e => h.ne (Option.some.inj e).symm), h.ne⟩
  match i, hi with
  | 0, _ => rfl
  | 1, _ => rfl
  | 2, _ => rfl
  | 3, _ => rfl
  | 4, _ => rfl
  | 5, _ => rfl
set_option maxRecDepth 100000 in
theorem fuse_any (w : World) (g m n : Nat) (d : DkIn) (h : PD w g m n d) (z : Int) (b : Bool) : Calls Try.prog 16 #[.pointer (some ⟨g, 0, none⟩), .int .i64 z, .bool b] w fun e w' => e = .returned (.tuple #[]) ∧ Hid (PD w' g m n (fuseV d z b)) ∧ Hid (Bx g m w w') := by
  have HP := Lib.hid h
  have CG : Hid (Calls Try.prog 43 #[.pointer (some ⟨g, 0, none⟩)] w fun e w' => e = .returned (.bool true) ∧ w = w') := given_any w g m n d h
  obtain ⟨c0, c1, c2, c3, c4, c5⟩ := h.cells
  have f3 := World.rowIs.frozen h.row 3
  have f4 := World.rowIs.frozen h.row 4
  have gset : ∀ (W : World) (i : Nat) (u : Value), W.grownBy (W.setCell ⟨g, i, none⟩ u) (some g) := fun W i u => ⟨rfl, rfl, rfl, by simp, fun j hj hne => Below.heap_setCell _ _ _ _ fun e => hne (by rw [e])⟩
  clear h
  have e : (if 0 < z then z else 0) = max 0 z := by omega
  unfold fuseV
  rw [e]
  clear e
  go_enter Try.func16, Try.ntmps16
  go_wp2_with (go_at_call 43; (with_reducible refine CG.out.mono ?_); rintro e w2 ⟨rfl, rfl⟩)
  go_end0
  exact ⟨rfl, (HP.out.setLast (max 0 z)).setHalf b, Bx.grown (grw_trans (gset _ _ _) (gset _ _ _)) fun k e => Or.inl (Option.some.inj e).symm⟩
set_option maxRecDepth 100000 in
theorem new_any (w : World) (z : Int) (h : 0 ≤ z ∧ z ≤ 16777216) : Calls Try.prog 6 #[.int .i64 z] w fun e w' => e = .returned (.tuple #[.pointer (some ⟨w.heap.size + 1, 0, none⟩), .int .i64 0]) ∧ Hid (PD w' (w.heap.size + 1) w.heap.size 0 (newD z)) ∧ Hid (Below w.heap.size w w') := by
  obtain ⟨h0, h1⟩ := h
  have d0 : decide (z < 0) = false := decide_eq_false (by omega)
  have d1 : decide (16777216 < z) = false := decide_eq_false (by omega)
  have n0 : ¬ z < 0 := by omega
  have n1 : ¬ 16777216 < z := by omega
  have hmm := @run_makeMap Try.prog
  go_enter Try.func6, Try.ntmps6
  go_wp2
  go_ret2
  refine ⟨rfl, ⟨?_, (World.ownsMap_made w _ _ _).alloc _, by omega⟩, below_al (below_al (Below.refl _ _) _) _⟩
  have hr := World.rowIs_alloc (w.alloc (.map #[] 0)) #[.map (some w.heap.size), .int .i64 z, .int .i64 0, .int .i64 0, .bool false, .bool false] 56 (cellP w.heap.size (newD z)) (fun i hi => by
    match i, hi with
    | 0, _ => rfl
    | 1, _ => rfl
    | 2, _ => rfl
    | 3, _ => rfl
    | 4, _ => rfl
    | 5, _ => rfl)
  rw [show (w.alloc (.map #[] 0)).heap.size = w.heap.size + 1 from by simp] at hr
  exact hr
end Dsk
end Go.Proofs.Yteaikleofboknaa
end
section
namespace Go.Proofs.Yteaikleofboknaa
open Go.RowKit Go.Great Go.Maps
namespace Dsk
/-- A file is looked up; where there is none, the empty one is told. -/
theorem lookup_file {ops : Array Oper} {rest : List Oper} {o : Oper} {a : Act} {w : World} {Q : Exit → Act → World → Prop} (hg : o.guard = none) (m x : Operand) (hop : o.op = Op.lookup 54 m x false) (b n : Nat) (l : List FileIn) (hm : a.eval m = .map (some b)) (hown : w.ownsMap Try.prog 9 fileElem b n (datum l))
    (s : ByteArray) (hx : a.eval x = .string s) (hs : s.size ≤ 1000000000) (f : FileIn) (hf : (find s.data.toList l).getD ⟨s.data.toList, [], 0⟩ = f) (h : wpList Try.prog ops Q rest (a.put o.dst (.agg #[.string ⟨f.by'.toArray⟩, .int .i64 f.sure])) w) : wpList Try.prog ops Q (o :: rest) a w := by
  refine wpList_plain hg fun K' hK' => ?_
  obtain ⟨v, ps, hrun, hv⟩ := hown.lookup law Try.underlying54 (zeroF w) (fileElem_mk [] 0 []) (WideMaps.keyOf_string_mk Try.underlying9 (s := s) (by unfold maxLen; omega))
  have hv2 : fileElem v = some (encF f, ps) := by
    rw [hv, datum_at, ← hf]
    cases find s.data.toList l <;> rfl
  obtain ⟨rfl, _⟩ := fileElem_inv hv2
  unfold Oper.wp
  simp [execOp, hop, hm, hx, hrun, Result.andThen]
  exact hK' _ _ h
end Dsk
end Go.Proofs.Yteaikleofboknaa
end
section
namespace Go.Proofs.Yteaikleofboknaa
open Go.RowKit Go.Great Go.Maps
namespace Dsk
theorem wp_named {P : Program} {c : Code} {Q : Exit → Act → World → Prop} {a : Act} {w : World} (h : ∀ W, W = w → c.wp P Q a W) : c.wp P Q a w := h w rfl
set_option maxRecDepth 100000 in
set_option maxHeartbeats 4000000 in
theorem append_any (w : World) (g m n : Nat) (d : DkIn) (h : PD w g m n d) (hd : Dok d) (hn : n < 1000000) (s b : ByteArray) (hs : s.size ≤ 1000000000) (hbs : b.size ≤ 1000000000) (hb : bytesOf d.files ≤ 1000000000) (hl : ∀ f ∈ d.files, f.by'.length ≤ 1000000000) : Calls Try.prog 32 #[.pointer (some ⟨g, 0, none⟩), .string s, .string b] w fun e w' => e = .returned (.int .i64 (appendV d s.data.toList b.data.toList).1) ∧ Hid (PD w' g m (n + 1) (appendV d s.data.toList b.data.toList).2) ∧ Hid (Bx g m w w') := by
  have HP := Lib.hid h
  have CW : Hid (∀ W, PD W g m n d → Calls Try.prog 45 #[.pointer (some ⟨g, 0, none⟩)] W fun e w' => e = .returned (.int .i64 (if d.dead then 14 else 0)) ∧ W = w') := fun W h => wakes_any W g m n d h
  have CN : Hid (∀ W, Calls Try.prog 59 #[.string s] W fun e w' => e = .returned (.bool (isName s.data.toList)) ∧ Below W.heap.size W w') := fun W => name_any s hs W
  have CU : Hid (∀ W, PD W g m n d → Calls Try.prog 60 #[.pointer (some ⟨g, 0, none⟩)] W fun e w' => e = .returned (.int .i64 (usedV d)) ∧ Below W.heap.size W w') := fun W h => used_any W g m n d h hd hb
  have up : ∀ {W : World} {d : DkIn}, PD W g m n d → PD W g m (n + 1) d := fun h => ⟨h.row, h.own.mono (by omega), h.ne⟩
  have HLB : Hid (b.data.toList.length = b.size) := by show _ = _; rw [Array.length_toList]; rfl
  clear h
  cases hdd : d.dead with
  | true =>
    have e3 : appendV d s.data.toList b.data.toList = (14, d) := by unfold appendV; rw [hdd, if_pos rfl]
    rw [e3]
    rw [hdd] at CW
    go_enter Try.func32, Try.ntmps32
    go_wp2_with ((go_at_call 45; (with_reducible refine (CW.out _ HP.out).mono ?_); rintro e w1 ⟨rfl, rfl⟩))
    go_ret
    exact ⟨rfl, up HP.out, Bx.refl _ _ _⟩
  | false =>
    rw [hdd] at CW
    cases hnm : isName s.data.toList with
    | false =>
      have e3 : appendV d s.data.toList b.data.toList = (1, d) := by unfold appendV; rw [hdd, if_neg (by decide), if_pos hnm]
      rw [e3]
      rw [hnm] at CN
      go_enter Try.func32, Try.ntmps32
      go_wp2_with (first | (go_at_call 45; (with_reducible refine (CW.out _ HP.out).mono ?_); rintro e w1 ⟨rfl, rfl⟩) | (go_at_call 59; (with_reducible refine (CN.out _).mono ?_); rintro e w2 ⟨rfl, hb2⟩; have HB1 := Lib.hid hb2; have HP1 := Lib.hid (HP.out.below hb2); clear hb2))
      go_ret
      exact ⟨rfl, up HP1.out, Bx.below HB1.out⟩
    | true =>
      rw [hnm] at CN
      obtain ⟨hr0, hr1⟩ := hd.room
      have hu0 : 0 ≤ usedV d ∧ usedV d ≤ 1000000000 := by unfold usedV; split <;> omega
      obtain ⟨U, hU⟩ : ∃ U, Hid (usedV d = U) := ⟨_, rfl⟩
      rw [hU.out] at hu0 CU
      obtain ⟨hu1, hu2⟩ := hu0
      have ew : IntKind.i64.wrap (d.room - U) = d.room - U := by rw [IntKind.wrap_i64]; omega
      by_cases hf : d.room - U < (b.size : Int)
      · have df : decide (d.room - U < (b.size : Int)) = true := decide_eq_true hf
        have e3 : appendV d s.data.toList b.data.toList = (4, d) := by unfold appendV; rw [hdd, if_neg (by decide), if_neg (by rw [hnm]; decide), hU.out, HLB.out, if_pos hf]
        rw [e3]
        go_enter Try.func32, Try.ntmps32
        go_upto_region 6 with (first | (go_at_call 45; (with_reducible refine (CW.out _ HP.out).mono ?_); rintro e w1 ⟨rfl, rfl⟩) | (go_at_call 59; (with_reducible refine (CN.out _).mono ?_); rintro e w2 ⟨rfl, hb2⟩; have HB1 := Lib.hid hb2; have HP1 := Lib.hid (HP.out.below hb2); clear hb2))
        obtain ⟨-, p1, -⟩ := HP1.out.cells
        have hHeld : w2.drew.cell? ⟨g, 1, none⟩ = some (.int .i64 d.room) := p1
        have HP2 : Hid (PD w2.drew g m n d) := ⟨World.rowIs.drew HP1.out.row, HP1.out.own.drew, HP1.out.ne⟩
        have hgl := HP1.out.lt.1
        refine Ord.wp_region_U (fun W' => W'.cell? ⟨g, 1, none⟩ = some (.int .i64 d.room)) [] (by kernel_rfl) ?_
        refine take_at (i := 0) (v := ?_) 21 rfl rfl (by kernel_rfl) (by kernel_rfl) (by kernel_rfl) (by kernel_rfl) (by kernel_rfl) (by kernel_rfl) (by kernel_rfl) (fun _ _ _ h => h) (Or.inl ⟨by kernel_rfl, ?_⟩) hHeld ?_
        rotate_left
        · intro w hSw; (try dsimp only at hSw); skip; go_simp; (try with_reducible rfl)
        try simp only [Act.put, List.setIfInBounds_toArray, List.set_cons_zero, List.set_cons_succ]
        refine take_at (i := 1) (v := ?_) 22 rfl rfl (by kernel_rfl) (by kernel_rfl) (by kernel_rfl) (by kernel_rfl) (by kernel_rfl) (by kernel_rfl) (by kernel_rfl) (fun _ _ _ h => h) (Or.inl ⟨by kernel_rfl, ?_⟩) hHeld ?_
        rotate_left
        · intro w hSw; (try dsimp only at hSw); skip; go_simp; (try with_reducible rfl)
        try simp only [Act.put, List.setIfInBounds_toArray, List.set_cons_zero, List.set_cons_succ]
        refine take_at (i := 2) (v := ?_) 23 rfl rfl (by kernel_rfl) (by kernel_rfl) (by kernel_rfl) (by kernel_rfl) (by kernel_rfl) (by kernel_rfl) (by kernel_rfl) (fun _ _ _ h => h) (Or.inl ⟨by kernel_rfl, ?_⟩) hHeld ?_
        rotate_left
        · intro w hSw; (try dsimp only at hSw); skip; go_simp; (try with_reducible rfl)
        try simp only [Act.put, List.setIfInBounds_toArray, List.set_cons_zero, List.set_cons_succ]
        refine take_at (i := 3) (v := ?_) 24 rfl rfl (by kernel_rfl) (by kernel_rfl) (by kernel_rfl) (by kernel_rfl) (by kernel_rfl) (by kernel_rfl) (by kernel_rfl) (fun _ _ _ h => h) (Or.inl ⟨by kernel_rfl, ?_⟩) hHeld ?_
        rotate_left
        · intro w hSw; (try dsimp only at hSw); skip; go_simp; (try with_reducible rfl)
        try simp only [Act.put, List.setIfInBounds_toArray, List.set_cons_zero, List.set_cons_succ]
        refine take_at (i := 4) (v := ?_) 25 rfl rfl (by kernel_rfl) (by kernel_rfl) (by kernel_rfl) (by kernel_rfl) (by kernel_rfl) (by kernel_rfl) (by kernel_rfl) (fun _ _ _ h => h) (Or.inl ⟨by kernel_rfl, ?_⟩) hHeld ?_
        rotate_left
        · intro w hSw; (try dsimp only at hSw); skip; go_simp; (try with_reducible rfl)
        try simp only [Act.put, List.setIfInBounds_toArray, List.set_cons_zero, List.set_cons_succ]
        refine take_at (i := 5) (v := ?_) 26 rfl rfl (by kernel_rfl) (by kernel_rfl) (by kernel_rfl) (by kernel_rfl) (by kernel_rfl) (by kernel_rfl) (by kernel_rfl) (fun _ _ _ h => h) (Or.inl ⟨by kernel_rfl, ?_⟩) hHeld ?_
        rotate_left
        · intro w hSw; (try dsimp only at hSw); skip; go_simp; (try with_reducible rfl)
        try simp only [Act.put, List.setIfInBounds_toArray, List.set_cons_zero, List.set_cons_succ]
        refine take_at (i := 6) (v := ?_) 27 rfl rfl (by kernel_rfl) (by kernel_rfl) (by kernel_rfl) (by kernel_rfl) (by kernel_rfl) (by kernel_rfl) (by kernel_rfl) (fun _ _ _ h => h) (Or.inl ⟨by kernel_rfl, ?_⟩) hHeld ?_
        rotate_left
        · intro w hSw; (try dsimp only at hSw); skip; go_simp; (try with_reducible rfl)
        try simp only [Act.put, List.setIfInBounds_toArray, List.set_cons_zero, List.set_cons_succ]
        refine Ord.wpAnyU_one (i := 7) (by kernel_rfl) rfl (fun K hK => ?_)
        go_simp
        go_wp2_with (go_at_call 60; (with_reducible refine (CU.out _ HP2.out).mono ?_); rintro e w3 ⟨rfl, hb3⟩; have hs3 := (hb3.cell (p := ⟨g, 1, none⟩) hgl).trans hHeld; have HB3 : Hid (Below w2.heap.size w2 w3) := ⟨hb3.os, hb3.tape, hb3.output, hb3.size, hb3.block⟩; clear hb3)
        refine hK.out _ _ (fun _ => hs3) ?_
        clear hK K
        try simp only [Act.put, List.setIfInBounds_toArray, List.set_cons_zero, List.set_cons_succ]
        clear hHeld
        have hHeld := hs3
        refine take_at (i := 8) (v := ?_) 29 rfl rfl (by kernel_rfl) (by kernel_rfl) (by kernel_rfl) (by kernel_rfl) (by kernel_rfl) (by kernel_rfl) (by kernel_rfl) (fun _ _ _ h => h) (Or.inl ⟨by kernel_rfl, ?_⟩) hHeld ?_
        rotate_left
        · intro w hSw; (try dsimp only at hSw); skip; go_simp; (try with_reducible rfl)
        try simp only [Act.put, List.setIfInBounds_toArray, List.set_cons_zero, List.set_cons_succ]
        refine take_at (i := 9) (v := ?_) 30 rfl rfl (by kernel_rfl) (by kernel_rfl) (by kernel_rfl) (by kernel_rfl) (by kernel_rfl) (by kernel_rfl) (by kernel_rfl) (fun _ _ _ h => h) (Or.inl ⟨by kernel_rfl, ?_⟩) hHeld ?_
        rotate_left
        · intro w hSw; (try dsimp only at hSw); skip; go_simp; (try with_reducible rfl)
        try simp only [Act.put, List.setIfInBounds_toArray, List.set_cons_zero, List.set_cons_succ]
        refine Ord.wpAnyU_one (i := 10) (by kernel_rfl) rfl (fun K hK => ?_)
        go_simp
        refine hK.out _ _ (fun _ => hs3) ?_
        clear hK K
        try simp only [Act.put, List.setIfInBounds_toArray, List.set_cons_zero, List.set_cons_succ]
        refine Ord.wpAnyU_done (by kernel_rfl) ?_ _
        have HO3 := Lib.hid (HP2.out.own.kept (w' := w3) (row := none) ⟨HB3.out.os, HB3.out.tape, HB3.out.output, HB3.out.size, fun k hk _ => HB3.out.block k hk⟩ (by simp))
        obtain ⟨c0, -⟩ := (HP1.out.below HB3.out).cells
        go_wp2
        go_ret
        exact ⟨rfl, up (HP1.out.below HB3.out), Bx.below (below2 HB1.out HB3.out)⟩
      · have df : decide (d.room - U < (b.size : Int)) = false := decide_eq_false hf
        obtain ⟨f, hff⟩ : ∃ f, (find s.data.toList d.files).getD ⟨s.data.toList, [], 0⟩ = f := ⟨_, rfl⟩
        have hfl : f.by'.length ≤ 1000000000 := by
          rw [← hff]
          cases hq : find s.data.toList d.files with
          | none => simp
          | some x => exact hl x ((find_some hd.fok.rise _ x).1 hq).1
        have hfo : f.sure ≤ (f.by' ++ b.data.toList).length := by rw [← hff]; exact more_ok hd.fok _ _
        have e3 : appendV d s.data.toList b.data.toList = ((opV { d with files := putF ⟨s.data.toList, f.by' ++ b.data.toList, f.sure⟩ d.files }).2.1, (opV { d with files := putF ⟨s.data.toList, f.by' ++ b.data.toList, f.sure⟩ d.files }).2.2) := by unfold appendV; rw [hdd, if_neg (by decide), if_neg (by rw [hnm]; decide), hU.out, HLB.out, if_neg hf, hff]
        rw [e3]
        have CB : Hid (∀ W, PD W g m (n + 1) { d with files := putF ⟨s.data.toList, f.by' ++ b.data.toList, f.sure⟩ d.files } → Calls Try.prog 57 #[.pointer (some ⟨g, 0, none⟩)] W fun e w' => e = .returned (.tuple #[.bool (opV { d with files := putF ⟨s.data.toList, f.by' ++ b.data.toList, f.sure⟩ d.files }).1, .int .i64 (opV { d with files := putF ⟨s.data.toList, f.by' ++ b.data.toList, f.sure⟩ d.files }).2.1]) ∧ Hid (PD w' g m (n + 1) (opV { d with files := putF ⟨s.data.toList, f.by' ++ b.data.toList, f.sure⟩ d.files }).2.2) ∧ Hid (W.grownBy w' (some g))) := fun W h => begins_any W g m (n + 1) _ h ⟨hd.fok.put ⟨s.data.toList, f.by' ++ b.data.toList, f.sure⟩ hnm hfo, hd.room, hd.ops, hd.last⟩
        generalize opV { d with files := putF ⟨s.data.toList, f.by' ++ b.data.toList, f.sure⟩ d.files } = r at *
        have hzs : ¬ 9223372036854775807 < (ByteArray.mk f.by'.toArray).size + b.size := by
          have : (ByteArray.mk f.by'.toArray).size = f.by'.length := by simp [ByteArray.size]
          omega
        have q1 : ByteArray.mk f.by'.toArray ++ b = ⟨(f.by' ++ b.data.toList).toArray⟩ := by
          apply ByteArray.ext
          simp
        go_enter Try.func32, Try.ntmps32
        go_upto_region 6 with (first | (go_at_call 45; (with_reducible refine (CW.out _ HP.out).mono ?_); rintro e w1 ⟨rfl, rfl⟩) | (go_at_call 59; (with_reducible refine (CN.out _).mono ?_); rintro e w2 ⟨rfl, hb2⟩; have HB1 := Lib.hid hb2; have HP1 := Lib.hid (HP.out.below hb2); clear hb2))
        obtain ⟨-, p1, -⟩ := HP1.out.cells
        have hHeld : w2.drew.cell? ⟨g, 1, none⟩ = some (.int .i64 d.room) := p1
        have HP2 : Hid (PD w2.drew g m n d) := ⟨World.rowIs.drew HP1.out.row, HP1.out.own.drew, HP1.out.ne⟩
        have hgl := HP1.out.lt.1
        refine Ord.wp_region_U (fun W' => W'.cell? ⟨g, 1, none⟩ = some (.int .i64 d.room)) [] (by kernel_rfl) ?_
        refine take_at (i := 0) (v := ?_) 21 rfl rfl (by kernel_rfl) (by kernel_rfl) (by kernel_rfl) (by kernel_rfl) (by kernel_rfl) (by kernel_rfl) (by kernel_rfl) (fun _ _ _ h => h) (Or.inl ⟨by kernel_rfl, ?_⟩) hHeld ?_
        rotate_left
        · intro w hSw; (try dsimp only at hSw); skip; go_simp; (try with_reducible rfl)
        try simp only [Act.put, List.setIfInBounds_toArray, List.set_cons_zero, List.set_cons_succ]
        refine take_at (i := 1) (v := ?_) 22 rfl rfl (by kernel_rfl) (by kernel_rfl) (by kernel_rfl) (by kernel_rfl) (by kernel_rfl) (by kernel_rfl) (by kernel_rfl) (fun _ _ _ h => h) (Or.inl ⟨by kernel_rfl, ?_⟩) hHeld ?_
        rotate_left
        · intro w hSw; (try dsimp only at hSw); skip; go_simp; (try with_reducible rfl)
        try simp only [Act.put, List.setIfInBounds_toArray, List.set_cons_zero, List.set_cons_succ]
        refine take_at (i := 2) (v := ?_) 23 rfl rfl (by kernel_rfl) (by kernel_rfl) (by kernel_rfl) (by kernel_rfl) (by kernel_rfl) (by kernel_rfl) (by kernel_rfl) (fun _ _ _ h => h) (Or.inl ⟨by kernel_rfl, ?_⟩) hHeld ?_
        rotate_left
        · intro w hSw; (try dsimp only at hSw); skip; go_simp; (try with_reducible rfl)
        try simp only [Act.put, List.setIfInBounds_toArray, List.set_cons_zero, List.set_cons_succ]
        refine take_at (i := 3) (v := ?_) 24 rfl rfl (by kernel_rfl) (by kernel_rfl) (by kernel_rfl) (by kernel_rfl) (by kernel_rfl) (by kernel_rfl) (by kernel_rfl) (fun _ _ _ h => h) (Or.inl ⟨by kernel_rfl, ?_⟩) hHeld ?_
        rotate_left
        · intro w hSw; (try dsimp only at hSw); skip; go_simp; (try with_reducible rfl)
        try simp only [Act.put, List.setIfInBounds_toArray, List.set_cons_zero, List.set_cons_succ]
        refine take_at (i := 4) (v := ?_) 25 rfl rfl (by kernel_rfl) (by kernel_rfl) (by kernel_rfl) (by kernel_rfl) (by kernel_rfl) (by kernel_rfl) (by kernel_rfl) (fun _ _ _ h => h) (Or.inl ⟨by kernel_rfl, ?_⟩) hHeld ?_
        rotate_left
        · intro w hSw; (try dsimp only at hSw); skip; go_simp; (try with_reducible rfl)
        try simp only [Act.put, List.setIfInBounds_toArray, List.set_cons_zero, List.set_cons_succ]
        refine take_at (i := 5) (v := ?_) 26 rfl rfl (by kernel_rfl) (by kernel_rfl) (by kernel_rfl) (by kernel_rfl) (by kernel_rfl) (by kernel_rfl) (by kernel_rfl) (fun _ _ _ h => h) (Or.inl ⟨by kernel_rfl, ?_⟩) hHeld ?_
        rotate_left
        · intro w hSw; (try dsimp only at hSw); skip; go_simp; (try with_reducible rfl)
        try simp only [Act.put, List.setIfInBounds_toArray, List.set_cons_zero, List.set_cons_succ]
        refine take_at (i := 6) (v := ?_) 27 rfl rfl (by kernel_rfl) (by kernel_rfl) (by kernel_rfl) (by kernel_rfl) (by kernel_rfl) (by kernel_rfl) (by kernel_rfl) (fun _ _ _ h => h) (Or.inl ⟨by kernel_rfl, ?_⟩) hHeld ?_
        rotate_left
        · intro w hSw; (try dsimp only at hSw); skip; go_simp; (try with_reducible rfl)
        try simp only [Act.put, List.setIfInBounds_toArray, List.set_cons_zero, List.set_cons_succ]
        refine Ord.wpAnyU_one (i := 7) (by kernel_rfl) rfl (fun K hK => ?_)
        go_simp
        go_wp2_with (go_at_call 60; (with_reducible refine (CU.out _ HP2.out).mono ?_); rintro e w3 ⟨rfl, hb3⟩; have hs3 := (hb3.cell (p := ⟨g, 1, none⟩) hgl).trans hHeld; have HB3 : Hid (Below w2.heap.size w2 w3) := ⟨hb3.os, hb3.tape, hb3.output, hb3.size, hb3.block⟩; clear hb3)
        refine hK.out _ _ (fun _ => hs3) ?_
        clear hK K
        try simp only [Act.put, List.setIfInBounds_toArray, List.set_cons_zero, List.set_cons_succ]
        clear hHeld
        have hHeld := hs3
        refine take_at (i := 8) (v := ?_) 29 rfl rfl (by kernel_rfl) (by kernel_rfl) (by kernel_rfl) (by kernel_rfl) (by kernel_rfl) (by kernel_rfl) (by kernel_rfl) (fun _ _ _ h => h) (Or.inl ⟨by kernel_rfl, ?_⟩) hHeld ?_
        rotate_left
        · intro w hSw; (try dsimp only at hSw); skip; go_simp; (try with_reducible rfl)
        try simp only [Act.put, List.setIfInBounds_toArray, List.set_cons_zero, List.set_cons_succ]
        refine take_at (i := 9) (v := ?_) 30 rfl rfl (by kernel_rfl) (by kernel_rfl) (by kernel_rfl) (by kernel_rfl) (by kernel_rfl) (by kernel_rfl) (by kernel_rfl) (fun _ _ _ h => h) (Or.inl ⟨by kernel_rfl, ?_⟩) hHeld ?_
        rotate_left
        · intro w hSw; (try dsimp only at hSw); skip; go_simp; (try with_reducible rfl)
        try simp only [Act.put, List.setIfInBounds_toArray, List.set_cons_zero, List.set_cons_succ]
        refine Ord.wpAnyU_one (i := 10) (by kernel_rfl) rfl (fun K hK => ?_)
        go_simp
        refine hK.out _ _ (fun _ => hs3) ?_
        clear hK K
        try simp only [Act.put, List.setIfInBounds_toArray, List.set_cons_zero, List.set_cons_succ]
        refine Ord.wpAnyU_done (by kernel_rfl) ?_ _
        have HO3 := Lib.hid (HP2.out.own.kept (w' := w3) (row := none) ⟨HB3.out.os, HB3.out.tape, HB3.out.output, HB3.out.size, fun k hk _ => HB3.out.block k hk⟩ (by simp))
        obtain ⟨c0, -⟩ := (HP1.out.below HB3.out).cells
        go_upto_region 10 with (at_lookup; refine lookup_file rfl (.tmp 34) (.tmp 35) rfl m n d.files rfl HO3.out s rfl hs f hff ?_)
        refine wp_named fun W hW => ?_
        have hc : W.cell? ⟨w3.heap.size, 0, none⟩ = some (.string ⟨(f.by' ++ b.data.toList).toArray⟩) ∧ W.cell? ⟨w3.heap.size, 1, none⟩ = some (.int .i64 f.sure) := by
          rw [hW]
          constructor <;> (rw [World.cell?_alloc_at _ _ _ _ (by simp)]; rfl)
        have HBW : Hid (Below w3.heap.size w3 W) := by rw [hW]; exact below_al (Below.refl _ _) _
        clear hW
        have HPW := Lib.hid ((HP1.out.below HB3.out).below HBW.out)
        obtain ⟨p0, -⟩ := HPW.out.cells
        have hHeld : W.drew.cell? ⟨g, 0, none⟩ = some (.map (some m)) ∧ W.drew.cell? ⟨w3.heap.size, 0, none⟩ = some (.string ⟨(f.by' ++ b.data.toList).toArray⟩) ∧ W.drew.cell? ⟨w3.heap.size, 1, none⟩ = some (.int .i64 f.sure) := ⟨p0, hc.1, hc.2⟩
        have HOW : Hid (W.drew.ownsMap Try.prog 9 fileElem m n (datum d.files)) := HPW.out.own.drew
        clear hc p0 c0
        refine Ord.wp_region_U (fun W' => W'.cell? ⟨g, 0, none⟩ = some (.map (some m)) ∧ W'.cell? ⟨w3.heap.size, 0, none⟩ = some (.string ⟨(f.by' ++ b.data.toList).toArray⟩) ∧ W'.cell? ⟨w3.heap.size, 1, none⟩ = some (.int .i64 f.sure)) [6] (by kernel_rfl) ?_
        refine take_at (i := 0) (v := ?_) 42 rfl rfl (by kernel_rfl) (by kernel_rfl) (by kernel_rfl) (by kernel_rfl) (by kernel_rfl) (by kernel_rfl) (by kernel_rfl) (fun _ _ _ h => h) (Or.inl ⟨by kernel_rfl, ?_⟩) hHeld ?_
        rotate_left
        · intro w hSw; (try dsimp only at hSw); (try obtain ⟨f0, f1, f2⟩ := hSw); go_simp; (try with_reducible rfl)
        try simp only [Act.put, List.setIfInBounds_toArray, List.set_cons_zero, List.set_cons_succ]
        refine take_at (i := 1) (v := ?_) 43 rfl rfl (by kernel_rfl) (by kernel_rfl) (by kernel_rfl) (by kernel_rfl) (by kernel_rfl) (by kernel_rfl) (by kernel_rfl) (fun _ _ _ h => h) (Or.inl ⟨by kernel_rfl, ?_⟩) hHeld ?_
        rotate_left
        · intro w hSw; (try dsimp only at hSw); (try obtain ⟨f0, f1, f2⟩ := hSw); go_simp; (try with_reducible rfl)
        try simp only [Act.put, List.setIfInBounds_toArray, List.set_cons_zero, List.set_cons_succ]
        refine take_at (i := 2) (v := ?_) 44 rfl rfl (by kernel_rfl) (by kernel_rfl) (by kernel_rfl) (by kernel_rfl) (by kernel_rfl) (by kernel_rfl) (by kernel_rfl) (fun _ _ _ h => h) (Or.inl ⟨by kernel_rfl, ?_⟩) hHeld ?_
        rotate_left
        · intro w hSw; (try dsimp only at hSw); (try obtain ⟨f0, f1, f2⟩ := hSw); go_simp; (try with_reducible rfl)
        try simp only [Act.put, List.setIfInBounds_toArray, List.set_cons_zero, List.set_cons_succ]
        refine take_at (i := 3) (v := ?_) 45 rfl rfl (by kernel_rfl) (by kernel_rfl) (by kernel_rfl) (by kernel_rfl) (by kernel_rfl) (by kernel_rfl) (by kernel_rfl) (fun _ _ _ h => h) (Or.inl ⟨by kernel_rfl, ?_⟩) hHeld ?_
        rotate_left
        · intro w hSw; (try dsimp only at hSw); (try obtain ⟨f0, f1, f2⟩ := hSw); go_simp; (try with_reducible rfl)
        try simp only [Act.put, List.setIfInBounds_toArray, List.set_cons_zero, List.set_cons_succ]
        refine take_at (i := 4) (v := ?_) 46 rfl rfl (by kernel_rfl) (by kernel_rfl) (by kernel_rfl) (by kernel_rfl) (by kernel_rfl) (by kernel_rfl) (by kernel_rfl) (fun _ _ _ h => h) (Or.inl ⟨by kernel_rfl, ?_⟩) hHeld ?_
        rotate_left
        · intro w hSw; (try dsimp only at hSw); (try obtain ⟨f0, f1, f2⟩ := hSw); go_simp; (try with_reducible rfl)
        try simp only [Act.put, List.setIfInBounds_toArray, List.set_cons_zero, List.set_cons_succ]
        refine take_at (i := 5) (v := ?_) 47 rfl rfl (by kernel_rfl) (by kernel_rfl) (by kernel_rfl) (by kernel_rfl) (by kernel_rfl) (by kernel_rfl) (by kernel_rfl) (fun _ _ _ h => h) (Or.inl ⟨by kernel_rfl, ?_⟩) hHeld ?_
        rotate_left
        · intro w hSw; (try dsimp only at hSw); (try obtain ⟨f0, f1, f2⟩ := hSw); go_simp; (try with_reducible rfl)
        try simp only [Act.put, List.setIfInBounds_toArray, List.set_cons_zero, List.set_cons_succ]
        refine Ord.wpAnyU_one (i := 6) (by kernel_rfl) rfl (fun K hK => ?_)
        rw [if_pos (by rfl)]
        refine one_upd (.tmp 45) (.tmp 46) (.tmp 47) rfl rfl m n d.files hn rfl HOW.out s rfl hs (f.by' ++ b.data.toList) f.sure rfl ?_
        intro w6 ho6 hg6
        have HP6 := Lib.hid (PD.put (w := W.drew) (w' := w6) (d := d) ⟨World.rowIs.drew HPW.out.row, HOW.out, HPW.out.ne⟩ ho6 hg6)
        have HG6 := Lib.hid hg6
        clear ho6 hg6
        refine hK.out _ _ (fun h => by cases h) ?_
        clear hK K
        try simp only [Act.put, List.setIfInBounds_toArray, List.set_cons_zero, List.set_cons_succ]
        refine Ord.wpAnyU_done (by kernel_rfl) ?_ _
        go_wp2_with (go_at_call 57; (refine (CB.out _ HP6.out).mono ?_); rintro e w7 ⟨rfl, HP7, HG7⟩)
        go_ret
        exact ⟨rfl, HP7.out, (Bx.below (below2 HB1.out (below2 HB3.out HBW.out))).trans ((Bx.grown (a := W) ⟨HG6.out.os, HG6.out.tape, HG6.out.output, HG6.out.size, HG6.out.block⟩ fun k e => Or.inr (Option.some.inj e).symm).trans (Bx.grown HG7.out fun k e => Or.inl (Option.some.inj e).symm))⟩
end Dsk
end Go.Proofs.Yteaikleofboknaa
end
