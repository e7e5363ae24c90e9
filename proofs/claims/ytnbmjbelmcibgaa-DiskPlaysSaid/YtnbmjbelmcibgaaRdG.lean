/- The document's disk: a file is named anew, bytes are put behind a file: the walks. -/
import Derived.Test.YtnbmjbelmcibgaaRdF
import Derived.Test.YtnbmjbelmcibgaaDskN2
import Derived.BigQuiet
import Derived.Deep.QuietTactic
set_option linter.unusedSimpArgs false
set_option linter.unusedVariables false
namespace Go.Proofs.Ytnbmjbelmcibgaa
open Go.RowKit Go.Great Go.Maps
namespace Dsk
theorem toB {g B : Nat} {a b : World} (h : Bx g g a b) (hB : B ≤ a.heap.size) (hg : B ≤ g) : Below B a b := h.toB hB hg hg
theorem kept_box {a b : World} {g : Nat} (h : Bx g g a b) {k : Nat} (hk : k < a.heap.size) (hne : k ≠ g) : (∀ j, b.cell? ⟨k, j, none⟩ = a.cell? ⟨k, j, none⟩) ∧ ∀ cs T, a.heap[k]? = some (.cells cs T (0, 0)) → ∀ j, b.frozen? ⟨k, j, none⟩ = false := by
  have e := h.block k hk hne hne
  refine ⟨fun j => by unfold World.cell?; rw [e], fun cs T hc j => ?_⟩
  rw [← e] at hc
  exact frozen_of_row b k j cs T hc
theorem box_at (w : World) (cs : Array Value) (T : TypeId) (j : Nat) {u : Value} (h : cs[j]? = some u) : (w.alloc (.cells cs T)).cell? ⟨w.heap.size, j, none⟩ = some u := by
  rw [World.cell?_alloc_at _ _ _ _ rfl]
  exact h
set_option maxRecDepth 100000 in
set_option maxHeartbeats 8000000 in
theorem rrename_any (w : World) (g B : Nat) (v : Value) (d : DkIn) (h : RD w g B v d) (hd : Dok d) (hn : d.files.length < 80000) (s t : ByteArray) (hs : s.size ≤ 1000000000) (ht : t.size ≤ 1000000000) : Calls Try.prog 35 #[.pointer (some ⟨g, 0, none⟩), .string s, .string t] w fun e w' => e = .returned (.int .i64 (renameV d s.data.toList t.data.toList).1) ∧ (∃ v', Hid (RD w' g B v' (renameV d s.data.toList t.data.toList).2)) ∧ Hid (Below B w w') := by
  have HP := Lib.hid h
  have hbs := h.hB
  have hlo := h.lo
  have CN : Hid (∀ W, Calls Try.prog 41 #[.string t] W fun e w' => e = .returned (.bool (isName t.data.toList)) ∧ Below W.heap.size W w') := fun W => refName_any t ht W
  have CO : Hid (∀ W, RD W g B v d → Calls Try.prog 44 #[.pointer (some ⟨g, 0, none⟩)] W fun e w' => e = .returned (.tuple #[.bool (opV d).1, .int .i64 (opV d).2.1]) ∧ Hid (RD w' g B v (opV d).2.2) ∧ Hid (Bx g g W w')) := fun W h => rop_any W g B v d h hd
  obtain ⟨c0, -, -, -, -, c5⟩ := h.cells
  have hgl := h.lt
  clear h
  cases hdd : d.dead with
  | true =>
    have e : renameV d s.data.toList t.data.toList = (14, d) := by unfold renameV; rw [hdd, if_pos rfl]
    rw [e]
    rw [hdd] at c5
    go_enter Try.func35, Try.ntmps35
    go_wp2
    go_ret
    exact ⟨rfl, ⟨_, HP.out⟩, Below.refl _ _⟩
  | false =>
    rw [hdd] at c5
    cases hnm : isName t.data.toList with
    | false =>
      have e : renameV d s.data.toList t.data.toList = (1, d) := by unfold renameV; rw [hdd, if_neg (by decide), if_pos hnm]
      rw [e]
      rw [hnm] at CN
      go_enter Try.func35, Try.ntmps35
      go_wp2_with (go_at_call 41; (with_reducible refine (CN.out _).mono ?_); rintro e w1 ⟨rfl, hb1⟩)
      go_ret
      exact ⟨rfl, ⟨_, HP.out.below hb1⟩, hb1.mono hbs⟩
    | true =>
      rw [hnm] at CN
      cases hf : find s.data.toList d.files with
      | none =>
        have e : renameV d s.data.toList t.data.toList = (3, d) := by unfold renameV; rw [hdd, if_neg (by decide), hnm, if_neg (by decide), hf]
        rw [e]
        have CF : Hid (∀ W, RD W g B v d → Calls Try.prog 42 #[.pointer (some ⟨g, 0, none⟩), .string s] W fun e w' => e = .returned (.int .i64 (-1)) ∧ W = w') := fun W h => rfind_none W g B v d h (by omega) s hf
        go_enter Try.func35, Try.ntmps35
        go_wp2_with (first
          | (go_at_call 41; (with_reducible refine (CN.out _).mono ?_); rintro e w1 ⟨rfl, hb1⟩; have HB1 := Lib.hid hb1; have HP1 := Lib.hid (HP.out.below hb1); clear hb1)
          | (go_at_call 42; (with_reducible refine (CF.out _ HP1.out).mono ?_); rintro e w2 ⟨rfl, rfl⟩))
        go_ret
        exact ⟨rfl, ⟨_, HP1.out⟩, HB1.out.mono hbs⟩
      | some f =>
        obtain ⟨k, hk, ek, hr⟩ := found_some hd.fok hf
        have CF : Hid (∀ W, RD W g B v d → Calls Try.prog 42 #[.pointer (some ⟨g, 0, none⟩), .string s] W fun e w' => e = .returned (.int .i64 (k : Int)) ∧ W = w') := fun W h => (rfind_any W g B v d h (by omega) s).mono fun e w' ⟨⟨r, he, h1⟩, hw⟩ => ⟨by rw [he, hr r h1], hw.symm⟩
        obtain ⟨L, hL⟩ : ∃ L, Hid (d.files.length = L) := ⟨_, rfl⟩
        obtain ⟨a, cap, rfl, HR⟩ := HP.out.form hL.out
        obtain ⟨gv, rfl, hg1, hg2, hg3, x0, x1, x2⟩ := HR k hk
        rw [ek] at x0 x1 x2
        have HXS := Lib.hid (And.intro x0 (And.intro x1 x2))
        have e3 : renameV d s.data.toList t.data.toList = ((opV d).2.1, if (opV d).1 then { (opV d).2.2 with files := putF ⟨t.data.toList, f.by', f.sure⟩ (del s.data.toList (opV d).2.2.files) } else (opV d).2.2) := by
          unfold renameV
          rw [hdd, if_neg (by decide), hnm, if_neg (by decide), hf]
        rw [e3]
        have hk0 : (0 : Int) ≤ (k : Int) := by omega
        have hkn : ¬ (k : Int) < 0 := by omega
        have hk1 : decide ((k : Int) < 0) = false := decide_eq_false hkn
        have hkL : (k : Int) < (L : Int) := by have := hL.out; omega
        have hL1 : Hid ((opV d).2.2.files.length = L) := by show _ = _; rw [op_files]; exact hL.out
        clear e3 hr HR x0 x1 x2
        obtain ⟨r, hr⟩ : ∃ r, Hid (opV d = r) := ⟨_, rfl⟩
        rw [hr.out] at CO hL1 ⊢
        clear hr
        obtain ⟨r1, r2, r3⟩ := r
        dsimp only at CO hL1 ⊢
        have hLb : L < 80000 := by have := hL.out; omega
        have hdl := (bytes_del s.data.toList r3.files).2
        have hr3 : r3.files.length < 80000 := by rw [hL1.out]; exact hLb
        have CT : Hid (∀ W v, RD W g B v r3 → Calls Try.prog 45 #[.pointer (some ⟨g, 0, none⟩), .string s] W fun e w' => e = .returned (.tuple #[]) ∧ (∃ v', Hid (RD w' g B v' { r3 with files := del s.data.toList r3.files }) ∧ Hid (∀ b, v'.ownBlock = some b → W.heap.size ≤ b)) ∧ Hid (Bx g g W w')) := fun W v h => rtake_any W g B v r3 h (by omega) s
        have CP : Hid (∀ W v, RD W g B v { r3 with files := del s.data.toList r3.files } → Calls Try.prog 43 #[.pointer (some ⟨g, 0, none⟩), .agg #[.string t, .string ⟨f.by'.toArray⟩, .int .i64 f.sure]] W fun e w' => e = .returned (.tuple #[]) ∧ (∃ v', Hid (RD w' g B v' { r3 with files := putF ⟨t.data.toList, f.by', f.sure⟩ (del s.data.toList r3.files) })) ∧ Hid (Bx g g W w')) := fun W v h => rput_any W g B v _ h (by show (del s.data.toList r3.files).length < 90000; omega) ⟨t.data.toList, f.by', f.sure⟩
        clear hdl hr3
        have ARM1 : True := trivial
        cases r1 with
        | false =>
          rw [if_neg (by decide)]
          go_enter Try.func35, Try.ntmps35
          go_wp2_with (first
            | (go_at_call 41; (with_reducible refine (CN.out _).mono ?_); rintro e w1 ⟨rfl, hb1⟩; have HB1 := Lib.hid hb1; have HP1 := Lib.hid (HP.out.below hb1); clear hb1)
            | (go_at_call 42; (with_reducible refine (CF.out _ HP1.out).mono ?_); rintro e w2 ⟨rfl, rfl⟩)
            | (go_at_call 44; (with_reducible refine (CO.out _ HP1.out).mono ?_); rintro e w2 ⟨rfl, HP2, HX2⟩))
          go_ret
          exact ⟨rfl, ⟨_, HP2.out⟩, (HB1.out.mono hbs).trans (toB HX2.out (Nat.le_trans hbs HB1.out.size) hlo)⟩
        | true =>
          rw [if_pos rfl]
          go_enter Try.func35, Try.ntmps35
          go_wp2_with (first
            | (go_at_call 41; (with_reducible refine (CN.out _).mono ?_); rintro e w1 ⟨rfl, hb1⟩; have HB1 := Lib.hid hb1; have HP1 := Lib.hid (HP.out.below hb1); clear hb1)
            | (go_at_call 42; (with_reducible refine (CF.out _ HP1.out).mono ?_); rintro e w2 ⟨rfl, rfl⟩)
            | (go_at_call 44; (with_reducible refine (CO.out _ HP1.out).mono ?_); rintro e w2 ⟨rfl, HP2, HX2⟩; obtain ⟨p0, -⟩ := HP2.out.cells; have hgv2 := Nat.lt_of_lt_of_le hg2 HB1.out.size; obtain ⟨bq, -⟩ := kept_box HX2.out hgv2 hg3; have y0 := (bq (k * 3)).trans ((HB1.out.cell (p := ⟨gv, k * 3, none⟩) hg2).trans HXS.out.1); have y1 := (bq (k * 3 + 1)).trans ((HB1.out.cell (p := ⟨gv, k * 3 + 1, none⟩) hg2).trans HXS.out.2.1); have y2 := (bq (k * 3 + 2)).trans ((HB1.out.cell (p := ⟨gv, k * 3 + 2, none⟩) hg2).trans HXS.out.2.2); clear bq; have hs2 : w1.heap.size ≤ w2.heap.size := HX2.out.size; have hgl2 := HP2.out.lt)
            | (go_at_call 45; (with_reducible refine (CT.out _ _ (HP2.out.below (below_al (Below.refl _ _) _))).mono ?_); rintro e w3 ⟨rfl, ⟨v3, HP3, HN3⟩, HX3⟩; obtain ⟨bq, bf⟩ := kept_box HX3.out (k := w2.heap.size) (by simp) (by omega); have q0 := (bq 0).trans (box_at w2 _ _ 0 rfl); have q1 := (bq 1).trans (box_at w2 _ _ 1 rfl); have q2 := (bq 2).trans (box_at w2 _ _ 2 rfl); have fz := bf _ _ (heap_alloc_new w2 _) 0; clear bq bf; have hs3 : w2.heap.size + 1 ≤ w3.heap.size := (by have := HX3.out.size; simpa using this); have HP4 : Hid (RD (w3.setCell ⟨w2.heap.size, 0, none⟩ (.string t)) g B v3 { r3 with files := del s.data.toList r3.files }) := HP3.out.kept (o := some w2.heap.size) ⟨rfl, rfl, rfl, by simp, fun j hj hne => Below.heap_setCell _ _ _ _ fun e => hne (by rw [e])⟩ (fun e => absurd (Option.some.inj e) (by omega)) (Or.inr fun e => by have := HN3.out _ e; simp at this; omega))
            | (go_at_call 43; (with_reducible refine (CP.out _ _ HP4.out).mono ?_); rintro e w5 ⟨rfl, ⟨v5, HP5⟩, HX5⟩))
          go_ret
          have b1 := HB1.out.mono hbs
          have b2 := toB HX2.out (Nat.le_trans hbs HB1.out.size) hlo
          have hs2' : B ≤ w2.heap.size := Nat.le_trans (Nat.le_trans hbs HB1.out.size) HX2.out.size
          have b3 := toB HX3.out (by simp; omega) hlo
          have b4 : Below B w3 (w3.setCell ⟨w2.heap.size, 0, none⟩ (.string t)) := below_set hs2' _ _
          have b5 := toB HX5.out (by simp; omega) hlo
          exact ⟨rfl, ⟨_, HP5.out⟩, (((b1.trans b2).trans ((below_al (Below.refl w2.heap.size w2) _).mono hs2')).trans b3).trans (b4.trans b5)⟩
end Dsk
end Go.Proofs.Ytnbmjbelmcibgaa
