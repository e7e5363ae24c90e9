/- The kinds' table: the program's walk; a kind's word, a word's kind, a kind's fields. -/
import Derived.Test.YtbjlkeneeodghaaDoorCmdP
import Derived.Test.YtbjlkeneeodghaaDoorShelf
import Derived.Great.Walk
import Derived.Great.BuildSlice
import Derived.Laws.Rows
import Derived.Lib.LaidTab
set_option linter.unusedSimpArgs false
set_option linter.unusedVariables false
namespace Go.Proofs.YtbjlkeneeodghaaDoor
open Go.RowKit Go.Great
namespace Cmd
open Pen (bs)
open Rec (below2 below_al below_dN)
/-- The kinds' table as the program lays it. -/
def KV : Array Value := ((List.range 25).flatMap fun i => [Value.string (wd i), Value.string (tx i)]).toArray
def Z50 : Array Value := (List.replicate 50 (Value.string ByteArray.empty)).toArray
theorem below_setRow {k : Nat} {a b : World} (h : Below k a b) (g : Nat) (hg : k ≤ g) (cs : Array Value) : Below k a (b.setRow g cs) := by
  refine ⟨h.os, h.tape, h.output, ?_, fun j hj => ?_⟩
  · have := h.size
    simpa [World.setRow] using this
  · rw [← h.block j hj]
    simp [World.setRow, Array.getElem?_modify]
    omega
set_option maxRecDepth 100000 in
set_option maxHeartbeats 2000000 in
theorem kinds_any (w : World) : Calls Tryd.prog 50 #[] w fun e w' => e = .returned (.agg KV) ∧ Below w.heap.size w w' := by
  go_enter Tryd.func50, Tryd.ntmps50
  go_step
  go_step
  apply wp_region_lit
  refine wpList_allocTo rfl (some 0) rfl (.pointer (some ⟨w.heap.size, 0, none⟩)) (.cells Z50 73) (by as_aux_lemma => kernel_rfl) ?_
  apply wpList_nil
  go_step
  go_step
  go_step
  apply wp_region_lit
  refine wpList_buildTo rfl 72 _ rfl (some 1) rfl #[.string (wd 0), .string (tx 0)] (by as_aux_lemma => kernel_rfl) ?_
  refine wpList_buildTo rfl 72 _ rfl (some 2) rfl #[.string (wd 1), .string (tx 1)] (by as_aux_lemma => kernel_rfl) ?_
  refine wpList_buildTo rfl 72 _ rfl (some 3) rfl #[.string (wd 2), .string (tx 2)] (by as_aux_lemma => kernel_rfl) ?_
  refine wpList_buildTo rfl 72 _ rfl (some 4) rfl #[.string (wd 3), .string (tx 3)] (by as_aux_lemma => kernel_rfl) ?_
  refine wpList_buildTo rfl 72 _ rfl (some 5) rfl #[.string (wd 4), .string (tx 4)] (by as_aux_lemma => kernel_rfl) ?_
  refine wpList_buildTo rfl 72 _ rfl (some 6) rfl #[.string (wd 5), .string (tx 5)] (by as_aux_lemma => kernel_rfl) ?_
  refine wpList_buildTo rfl 72 _ rfl (some 7) rfl #[.string (wd 6), .string (tx 6)] (by as_aux_lemma => kernel_rfl) ?_
  refine wpList_buildTo rfl 72 _ rfl (some 8) rfl #[.string (wd 7), .string (tx 7)] (by as_aux_lemma => kernel_rfl) ?_
  refine wpList_buildTo rfl 72 _ rfl (some 9) rfl #[.string (wd 8), .string (tx 8)] (by as_aux_lemma => kernel_rfl) ?_
  refine wpList_buildTo rfl 72 _ rfl (some 10) rfl #[.string (wd 9), .string (tx 9)] (by as_aux_lemma => kernel_rfl) ?_
  refine wpList_buildTo rfl 72 _ rfl (some 11) rfl #[.string (wd 10), .string (tx 10)] (by as_aux_lemma => kernel_rfl) ?_
  refine wpList_buildTo rfl 72 _ rfl (some 12) rfl #[.string (wd 11), .string (tx 11)] (by as_aux_lemma => kernel_rfl) ?_
  refine wpList_buildTo rfl 72 _ rfl (some 13) rfl #[.string (wd 12), .string (tx 12)] (by as_aux_lemma => kernel_rfl) ?_
  refine wpList_buildTo rfl 72 _ rfl (some 14) rfl #[.string (wd 13), .string (tx 13)] (by as_aux_lemma => kernel_rfl) ?_
  refine wpList_buildTo rfl 72 _ rfl (some 15) rfl #[.string (wd 14), .string (tx 14)] (by as_aux_lemma => kernel_rfl) ?_
  refine wpList_buildTo rfl 72 _ rfl (some 16) rfl #[.string (wd 15), .string (tx 15)] (by as_aux_lemma => kernel_rfl) ?_
  refine wpList_buildTo rfl 72 _ rfl (some 17) rfl #[.string (wd 16), .string (tx 16)] (by as_aux_lemma => kernel_rfl) ?_
  refine wpList_buildTo rfl 72 _ rfl (some 18) rfl #[.string (wd 17), .string (tx 17)] (by as_aux_lemma => kernel_rfl) ?_
  refine wpList_buildTo rfl 72 _ rfl (some 19) rfl #[.string (wd 18), .string (tx 18)] (by as_aux_lemma => kernel_rfl) ?_
  refine wpList_buildTo rfl 72 _ rfl (some 20) rfl #[.string (wd 19), .string (tx 19)] (by as_aux_lemma => kernel_rfl) ?_
  refine wpList_buildTo rfl 72 _ rfl (some 21) rfl #[.string (wd 20), .string (tx 20)] (by as_aux_lemma => kernel_rfl) ?_
  refine wpList_buildTo rfl 72 _ rfl (some 22) rfl #[.string (wd 21), .string (tx 21)] (by as_aux_lemma => kernel_rfl) ?_
  refine wpList_buildTo rfl 72 _ rfl (some 23) rfl #[.string (wd 22), .string (tx 22)] (by as_aux_lemma => kernel_rfl) ?_
  refine wpList_buildTo rfl 72 _ rfl (some 24) rfl #[.string (wd 23), .string (tx 23)] (by as_aux_lemma => kernel_rfl) ?_
  refine wpList_buildTo rfl 72 _ rfl (some 25) rfl #[.string (wd 24), .string (tx 24)] (by as_aux_lemma => kernel_rfl) ?_
  refine wpList_buildTo rfl 73 _ rfl (some 26) rfl KV (by as_aux_lemma => kernel_rfl) ?_
  refine wpList_store_rowTo rfl 73 (.tmp 0) (.tmp 26) rfl rfl w.heap.size KV (by as_aux_lemma => kernel_rfl) (by as_aux_lemma => kernel_rfl) 73 Z50 (heap_alloc_new w _) (by as_aux_lemma => kernel_rfl) (by as_aux_lemma => kernel_rfl) (by as_aux_lemma => kernel_rfl) ?_
  apply wpList_nil
  go_step
  go_step
  try go_step
  exact bodyPost_ret (v := .agg KV) (results_cell_row rfl _ _ w.heap.size 73 KV (0, 0) _ (by as_aux_lemma => kernel_rfl) (setRow_heap _ _ Z50 _ _ _ (heap_alloc_new w _)) Tryd.underlying73 rfl (by as_aux_lemma => kernel_rfl)) (by as_aux_lemma => kernel_rfl) ⟨rfl, below_setRow ((Below.refl _ _).alloc (Nat.le_refl _) _) _ (Nat.le_refl _) _⟩
/-- A kind of the table. -/
theorem kv_at (n : Nat) (hn : n < 25) (w : World) : Sem.run Tryd.prog (Instr.index 73 (.agg KV) (.int .i64 (n : Int))) w = Result.ok (Value.agg #[.string (wd n), .string (tx n)]) w := by
  match n, hn with
  | 0, _ => show Sem.run _ _ _ = _; kernel_rfl
  | 1, _ => show Sem.run _ _ _ = _; kernel_rfl
  | 2, _ => show Sem.run _ _ _ = _; kernel_rfl
  | 3, _ => show Sem.run _ _ _ = _; kernel_rfl
  | 4, _ => show Sem.run _ _ _ = _; kernel_rfl
  | 5, _ => show Sem.run _ _ _ = _; kernel_rfl
  | 6, _ => show Sem.run _ _ _ = _; kernel_rfl
  | 7, _ => show Sem.run _ _ _ = _; kernel_rfl
  | 8, _ => show Sem.run _ _ _ = _; kernel_rfl
  | 9, _ => show Sem.run _ _ _ = _; kernel_rfl
  | 10, _ => show Sem.run _ _ _ = _; kernel_rfl
  | 11, _ => show Sem.run _ _ _ = _; kernel_rfl
  | 12, _ => show Sem.run _ _ _ = _; kernel_rfl
  | 13, _ => show Sem.run _ _ _ = _; kernel_rfl
  | 14, _ => show Sem.run _ _ _ = _; kernel_rfl
  | 15, _ => show Sem.run _ _ _ = _; kernel_rfl
  | 16, _ => show Sem.run _ _ _ = _; kernel_rfl
  | 17, _ => show Sem.run _ _ _ = _; kernel_rfl
  | 18, _ => show Sem.run _ _ _ = _; kernel_rfl
  | 19, _ => show Sem.run _ _ _ = _; kernel_rfl
  | 20, _ => show Sem.run _ _ _ = _; kernel_rfl
  | 21, _ => show Sem.run _ _ _ = _; kernel_rfl
  | 22, _ => show Sem.run _ _ _ = _; kernel_rfl
  | 23, _ => show Sem.run _ _ _ = _; kernel_rfl
  | 24, _ => show Sem.run _ _ _ = _; kernel_rfl
  | n + 25, h => omega
theorem two_0 (X Y : ByteArray) (w : World) : Sem.run Tryd.prog (Instr.index 72 (.agg #[.string X, .string Y]) (.int .i64 0)) w = Result.ok (.string X) w := by kernel_rfl
theorem two_1 (X Y : ByteArray) (w : World) : Sem.run Tryd.prog (Instr.index 72 (.agg #[.string X, .string Y]) (.int .i64 1)) w = Result.ok (.string Y) w := by kernel_rfl
set_option maxRecDepth 100000 in
theorem name_any (k : Int) (w : World) : Calls Tryd.prog 23 #[.int .i64 k] w fun e w' => e = .returned (.string (nameOf k)) ∧ Below w.heap.size w w' := by
  have CK : Hid (∀ w, Calls Tryd.prog 50 #[] w fun e w' => e = .returned (.agg KV) ∧ Below w.heap.size w w') := fun w => kinds_any w
  by_cases h : 1 ≤ k ∧ k ≤ 25
  · have HN : Hid (nameOf k = wd (k - 1).toNat) := if_pos h
    have hi : Hid (∀ w, _) := fun w => kv_at (k - 1).toNat (by omega) w
    have e0 : (((k - 1).toNat : Nat) : Int) = k - 1 := by omega
    rw [e0] at hi
    rw [HN.out]
    generalize wd (k - 1).toNat = X at *
    generalize tx (k - 1).toNat = Y at *
    clear HN e0
    have hi2 := hi.out
    have j0 := two_0 X Y
    have j1 := two_1 X Y
    obtain ⟨h1, h2⟩ := h
    have n1 : ¬ k < 1 := by omega
    have n2 : ¬ 25 < k := by omega
    clear h1 h2
    generalize KV = T at *
    go_enter Tryd.func23, Tryd.ntmps23
    go_wp2_with (go_at_call 50; (with_reducible refine (CK.out _).mono ?_); rintro e w1 ⟨rfl, hb1⟩; have HB1 := Lib.hid hb1; clear hb1)
    all_goals go_ret
    all_goals exact ⟨rfl, HB1.out⟩
  · have HN : Hid (nameOf k = ⟨#[]⟩) := if_neg h
    rw [HN.out]
    by_cases h1 : k < 1
    · have d1 : decide (k < 1) = true := decide_eq_true h1
      go_enter Tryd.func23, Tryd.ntmps23
      go_wp2
      all_goals go_ret
      all_goals exact ⟨rfl, Below.refl _ _⟩
    · have d1 : decide (k < 1) = false := decide_eq_false h1
      have h2 : 25 < k := by omega
      have d2 : decide (25 < k) = true := decide_eq_true h2
      go_enter Tryd.func23, Tryd.ntmps23
      go_wp2
      all_goals go_ret
      all_goals exact ⟨rfl, Below.refl _ _⟩
/-- The table of blanks is laid. -/
def Tab (w : World) : Prop := Lib.TabIs Tryd.prog w "strings.asciiSpace" .u8 Lib.asciiSpaceTab
theorem Tab.below {w w' : World} (h : Tab w) (hb : Below w.heap.size w w') : Tab w' := by
  have hgn : Tryd.prog.globalNamed "strings.asciiSpace" = some 0 := by kernel_rfl
  unfold Tab Lib.TabIs World.var? at h ⊢
  rw [hgn] at h ⊢
  simp only [Option.bind_some] at h ⊢
  have hlt : 0 < w.heap.size := by
    rcases Nat.lt_or_ge 0 w.heap.size with h' | h'
    · exact h'
    · rw [Array.getElem?_eq_none h'] at h; cases h
  rw [hb.block _ hlt]
  exact h
/-- Strings are given back. -/
def Gives (F : List ByteArray) (w : World) (e : Ending) (w' : World) : Prop := ∃ a cap, e = .returned (.slice a F.length cap) ∧ Hid (In.Strs w' a F) ∧ Hid (Below w.heap.size w w') ∧ Hid (∀ x, a = some x → w.heap.size ≤ x.block)
theorem strs_new {w : World} {g : Nat} (hg : w.heap.size = g) (l : List ByteArray) (t : TypeId) : In.Strs (w.alloc (.cells (l.map Value.string).toArray t)) (some ⟨g, 0, none⟩) l := by
  subst hg
  intro i hi
  refine ⟨w.heap.size, 0, rfl, by simp, ?_⟩
  have h := heap_alloc_new w (.cells (l.map Value.string).toArray t)
  unfold World.cell?
  rw [h]
  simp [List.getD, hi]
theorem tx_fields (n : Nat) (hn : n < 25) : Lib.fields (tx n).data.toList = (fis.getD n []).map fun i => names.getD i [] := fis_text n hn
set_option maxRecDepth 100000 in
theorem fields_any (k : Int) (w : World) (ht : Tab w) : Calls Tryd.prog 21 #[.int .i64 k] w (Gives (fn k) w) := by
  have CK : Hid (∀ w, Calls Tryd.prog 50 #[] w fun e w' => e = .returned (.agg KV) ∧ Below w.heap.size w w') := fun w => kinds_any w
  have HT := Lib.hid ht
  clear ht
  by_cases h : 1 ≤ k ∧ k ≤ 25
  · have hn : (k - 1).toNat < 25 := by omega
    have hi : Hid (∀ w, _) := fun w => kv_at (k - 1).toNat hn w
    have e0 : (((k - 1).toNat : Nat) : Int) = k - 1 := by omega
    rw [e0] at hi
    have HF : Hid ((Lib.fields (tx (k - 1).toNat).data.toList).map (fun l => Value.string ⟨l.toArray⟩) = (fn k).map Value.string) := by
      show _ = _
      unfold fn
      rw [tx_fields _ hn, fi_in h, List.map_map, List.map_map]
      rfl
    have HL : Hid ((Lib.fields (tx (k - 1).toNat).data.toList).length = (fn k).length) := by
      show _ = _
      have := congrArg List.length HF.out
      rw [List.length_map, List.length_map] at this
      exact this
    have CS : Hid (∀ W, Tab W → Calls Tryd.prog 43 #[.string (tx (k - 1).toNat)] W fun e w' => e = .returned (.slice (some ⟨W.heap.size, 0, none⟩) (fn k).length (fn k).length) ∧ w' = W.alloc (.cells ((fn k).map Value.string).toArray 9)) := fun W hW => by
      have hsz : (tx (k - 1).toNat).size < 4294967281 := by
        have := texts_len _ hn
        unfold tx
        rw [Pen.bs_size]
        omega
      have := Tryd.strings_Fields_laid (tx (k - 1).toNat) W hsz (fun j b hb => texts_ascii _ hn b (List.mem_of_getElem? hb)) hW
      rw [HL.out, HF.out] at this
      exact this
    generalize wd (k - 1).toNat = X at *
    generalize tx (k - 1).toNat = Y at *
    generalize fn k = F at *
    clear e0 hn HF HL
    have hi2 := hi.out
    have j0 := two_0 X Y
    have j1 := two_1 X Y
    obtain ⟨h1, h2⟩ := h
    have n1 : ¬ k < 1 := by omega
    have n2 : ¬ 25 < k := by omega
    clear h1 h2
    generalize KV = T at *
    go_enter Tryd.func21, Tryd.ntmps21
    go_wp2_with (first
      | (go_at_call 50; (with_reducible refine (CK.out _).mono ?_); rintro e w1 ⟨rfl, hb1⟩; have HB1 := Lib.hid hb1; clear hb1)
      | (go_at_call 43; (with_reducible refine (CS.out _ (HT.out.below HB1.out)).mono ?_); rintro e w2 ⟨rfl, hw2⟩; replace hw2 := Lib.hid hw2))
    all_goals go_ret
    all_goals exact ⟨_, _, rfl, by rw [hw2.out]; exact strs_new rfl F _, by rw [hw2.out]; exact below_al HB1.out _, fun x hx => by cases hx; exact HB1.out.size⟩
  · have HN : Hid (fn k = []) := by show fn k = []; unfold fn; rw [fi_out h]; rfl
    rw [HN.out]
    have HS : Hid (In.Strs w none []) := fun i hi => absurd hi (Nat.not_lt_zero i)
    by_cases h1 : k < 1
    · have d1 : decide (k < 1) = true := decide_eq_true h1
      go_enter Tryd.func21, Tryd.ntmps21
      go_wp2
      all_goals go_ret
      all_goals exact ⟨none, 0, rfl, HS, Below.refl _ _, fun x hx => by cases hx⟩
    · have d1 : decide (k < 1) = false := decide_eq_false h1
      have h2 : 25 < k := by omega
      have d2 : decide (25 < k) = true := decide_eq_true h2
      go_enter Tryd.func21, Tryd.ntmps21
      go_wp2
      all_goals go_ret
      all_goals exact ⟨none, 0, rfl, HS, Below.refl _ _, fun x hx => by cases hx⟩
end Cmd
end Go.Proofs.YtbjlkeneeodghaaDoor
