/- Texts put together: CmdK, CmdR, CmdG, CmdF. -/
import Derived.Test.YtlhalhilnkneeaaGreatDoorM02
import Derived.Test.YtlhalhilnkneeaaGreatDoorM03
import Derived.Great.Walk
import Derived.Great.BuildSlice
import Derived.Laws.Rows
import Derived.Lib.LaidTab
set_option linter.all false
section
namespace Go.Proofs.YtlhalhilnkneeaaGreatDoor
open Go.RowKit Go.Great
namespace Cmd
open Pen (bs)
open Rec (below2 below_al below_dN)
/-- The kinds' table as the program lays it. -/
def KV : Array Value := ((List.range 25).flatMap fun i => [Value.string (wd i), Value.string (tx i)]).toArray
def Z50 : Array Value := (List.replicate 50 (Value.string ByteArray.empty)).toArray
theorem below_setRow {k : Nat} {a b : World} (h : Below k a b) (g : Nat) (hg : k ≤ g) (cs : Array Value) : Below k a (b.setRow g cs) := by
  refine ⟨h.os, h.tape, h.output, ?_, fun j hj => ?_⟩
  · have := h.size
    simpa [World.setRow] using this
  · rw [← h.block j hj]
    simp [World.setRow, Array.getElem?_modify]
    omega
set_option maxRecDepth 100000 in
set_option maxHeartbeats 2000000 in
theorem kinds_any (w : World) : Calls Tryz.prog 101 #[] w fun e w' => e = .returned (.agg KV) ∧ Below w.heap.size w w' := by
  go_enter Tryz.func101, Tryz.ntmps101
  go_step
  go_step
  apply wp_region_lit
  refine wpList_allocTo rfl (some 0) rfl (.pointer (some ⟨w.heap.size, 0, none⟩)) (.cells Z50 130) (by as_aux_lemma => kernel_rfl) ?_
  apply wpList_nil
  go_step
  go_step
  go_step
  apply wp_region_lit
  refine wpList_buildTo rfl 129 _ rfl (some 1) rfl #[.string (wd 0), .string (tx 0)] (by as_aux_lemma => kernel_rfl) ?_
  refine wpList_buildTo rfl 129 _ rfl (some 2) rfl #[.string (wd 1), .string (tx 1)] (by as_aux_lemma => kernel_rfl) ?_
  refine wpList_buildTo rfl 129 _ rfl (some 3) rfl #[.string (wd 2), .string (tx 2)] (by as_aux_lemma => kernel_rfl) ?_
  refine wpList_buildTo rfl 129 _ rfl (some 4) rfl #[.string (wd 3), .string (tx 3)] (by as_aux_lemma => kernel_rfl) ?_
  refine wpList_buildTo rfl 129 _ rfl (some 5) rfl #[.string (wd 4), .string (tx 4)] (by as_aux_lemma => kernel_rfl) ?_
  refine wpList_buildTo rfl 129 _ rfl (some 6) rfl #[.string (wd 5), .string (tx 5)] (by as_aux_lemma => kernel_rfl) ?_
  refine wpList_buildTo rfl 129 _ rfl (some 7) rfl #[.string (wd 6), .string (tx 6)] (by as_aux_lemma => kernel_rfl) ?_
  refine wpList_buildTo rfl 129 _ rfl (some 8) rfl #[.string (wd 7), .string (tx 7)] (by as_aux_lemma => kernel_rfl) ?_
  refine wpList_buildTo rfl 129 _ rfl (some 9) rfl #[.string (wd 8), .string (tx 8)] (by as_aux_lemma => kernel_rfl) ?_
  refine wpList_buildTo rfl 129 _ rfl (some 10) rfl #[.string (wd 9), .string (tx 9)] (by as_aux_lemma => kernel_rfl) ?_
  refine wpList_buildTo rfl 129 _ rfl (some 11) rfl #[.string (wd 10), .string (tx 10)] (by as_aux_lemma => kernel_rfl) ?_
  refine wpList_buildTo rfl 129 _ rfl (some 12) rfl #[.string (wd 11), .string (tx 11)] (by as_aux_lemma => kernel_rfl) ?_
  refine wpList_buildTo rfl 129 _ rfl (some 13) rfl #[.string (wd 12), .string (tx 12)] (by as_aux_lemma => kernel_rfl) ?_
  refine wpList_buildTo rfl 129 _ rfl (some 14) rfl #[.string (wd 13), .string (tx 13)] (by as_aux_lemma => kernel_rfl) ?_
  refine wpList_buildTo rfl 129 _ rfl (some 15) rfl #[.string (wd 14), .string (tx 14)] (by as_aux_lemma => kernel_rfl) ?_
  refine wpList_buildTo rfl 129 _ rfl (some 16) rfl #[.string (wd 15), .string (tx 15)] (by as_aux_lemma => kernel_rfl) ?_
  refine wpList_buildTo rfl 129 _ rfl (some 17) rfl #[.string (wd 16), .string (tx 16)] (by as_aux_lemma => kernel_rfl) ?_
  refine wpList_buildTo rfl 129 _ rfl (some 18) rfl #[.string (wd 17), .string (tx 17)] (by as_aux_lemma => kernel_rfl) ?_
  refine wpList_buildTo rfl 129 _ rfl (some 19) rfl #[.string (wd 18), .string (tx 18)] (by as_aux_lemma => kernel_rfl) ?_
  refine wpList_buildTo rfl 129 _ rfl (some 20) rfl #[.string (wd 19), .string (tx 19)] (by as_aux_lemma => kernel_rfl) ?_
  refine wpList_buildTo rfl 129 _ rfl (some 21) rfl #[.string (wd 20), .string (tx 20)] (by as_aux_lemma => kernel_rfl) ?_
  refine wpList_buildTo rfl 129 _ rfl (some 22) rfl #[.string (wd 21), .string (tx 21)] (by as_aux_lemma => kernel_rfl) ?_
  refine wpList_buildTo rfl 129 _ rfl (some 23) rfl #[.string (wd 22), .string (tx 22)] (by as_aux_lemma => kernel_rfl) ?_
  refine wpList_buildTo rfl 129 _ rfl (some 24) rfl #[.string (wd 23), .string (tx 23)] (by as_aux_lemma => kernel_rfl) ?_
  refine wpList_buildTo rfl 129 _ rfl (some 25) rfl #[.string (wd 24), .string (tx 24)] (by as_aux_lemma => kernel_rfl) ?_
  refine wpList_buildTo rfl 130 _ rfl (some 26) rfl KV (by as_aux_lemma => kernel_rfl) ?_
  refine wpList_store_rowTo rfl 130 (.tmp 0) (.tmp 26) rfl rfl w.heap.size KV (by as_aux_lemma => kernel_rfl) (by as_aux_lemma => kernel_rfl) 130 Z50 (heap_alloc_new w _) (by as_aux_lemma => kernel_rfl) (by as_aux_lemma => kernel_rfl) (by as_aux_lemma => kernel_rfl) ?_
  apply wpList_nil
  go_step
  go_step
  try go_step
  exact bodyPost_ret (v := .agg KV) (results_cell_row rfl _ _ w.heap.size 130 KV (0, 0) _ (by as_aux_lemma => kernel_rfl) (setRow_heap _ _ Z50 _ _ _ (heap_alloc_new w _)) Tryz.underlying130 rfl (by as_aux_lemma => kernel_rfl)) (by as_aux_lemma => kernel_rfl) ⟨rfl, below_setRow ((Below.refl _ _).alloc (Nat.le_refl _) _) _ (Nat.le_refl _) _⟩
/-- A kind of the table. -/
theorem kv_at (n : Nat) (hn : n < 25) (w : World) : Sem.run Tryz.prog (Instr.index 130 (.agg KV) (.int .i64 (n : Int))) w = Result.ok (Value.agg #[.string (wd n), .string (tx n)]) w := by
  match n, hn with
  | 0, _ => show Sem.run _ _ _ = _; kernel_rfl
  | 1, _ => show Sem.run _ _ _ = _; kernel_rfl
  | 2, _ => show Sem.run _ _ _ = _; kernel_rfl
  | 3, _ => show Sem.run _ _ _ = _; kernel_rfl
  | 4, _ => show Sem.run _ _ _ = _; kernel_rfl
  | 5, _ => show Sem.run _ _ _ = _; kernel_rfl
  | 6, _ => show Sem.run _ _ _ = _; kernel_rfl
  | 7, _ => show Sem.run _ _ _ = _; kernel_rfl
  | 8, _ => show Sem.run _ _ _ = _; kernel_rfl
  | 9, _ => show Sem.run _ _ _ = _; kernel_rfl
  | 10, _ => show Sem.run _ _ _ = _; kernel_rfl
  | 11, _ => show Sem.run _ _ _ = _; kernel_rfl
  | 12, _ => show Sem.run _ _ _ = _; kernel_rfl
  | 13, _ => show Sem.run _ _ _ = _; kernel_rfl
  | 14, _ => show Sem.run _ _ _ = _; kernel_rfl
  | 15, _ => show Sem.run _ _ _ = _; kernel_rfl
  | 16, _ => show Sem.run _ _ _ = _; kernel_rfl
  | 17, _ => show Sem.run _ _ _ = _; kernel_rfl
  | 18, _ => show Sem.run _ _ _ = _; kernel_rfl
  | 19, _ => show Sem.run _ _ _ = _; kernel_rfl
  | 20, _ => show Sem.run _ _ _ = _; kernel_rfl
  | 21, _ => show Sem.run _ _ _ = _; kernel_rfl
  | 22, _ => show Sem.run _ _ _ = _; kernel_rfl
  | 23, _ => show Sem.run _ _ _ = _; kernel_rfl
  | 24, _ => show Sem.run _ _ _ = _; kernel_rfl
  | n + 25, h => omega
theorem two_0 (X Y : ByteArray) (w : World) : Sem.run Tryz.prog (Instr.index 129 (.agg #[.string X, .string Y]) (.int .i64 0)) w = Result.ok (.string X) w := by kernel_rfl
theorem two_1 (X Y : ByteArray) (w : World) : Sem.run Tryz.prog (Instr.index 129 (.agg #[.string X, .string Y]) (.int .i64 1)) w = Result.ok (.string Y) w := by kernel_rfl
set_option maxRecDepth 100000 in
theorem name_any (k : Int) (w : World) : Calls Tryz.prog 64 #[.int .i64 k] w fun e w' => e = .returned (.string (nameOf k)) ∧ Below w.heap.size w w' := by
  have CK : Hid (∀ w, Calls Tryz.prog 101 #[] w fun e w' => e = .returned (.agg KV) ∧ Below w.heap.size w w') := fun w => kinds_any w
  by_cases h : 1 ≤ k ∧ k ≤ 25
  · have HN : Hid (nameOf k = wd (k - 1).toNat) := if_pos h
    have hi : Hid (∀ w, _) := fun w => kv_at (k - 1).toNat (by omega) w
    have e0 : (((k - 1).toNat : Nat) : Int) = k - 1 := by omega
    rw [e0] at hi
    rw [HN.out]
    generalize wd (k - 1).toNat = X at *
    generalize tx (k - 1).toNat = Y at *
    clear HN e0
    have hi2 := hi.out
    have j0 := two_0 X Y
    have j1 := two_1 X Y
    obtain ⟨h1, h2⟩ := h
    have n1 : ¬ k < 1 := by omega
    have n2 : ¬ 25 < k := by omega
    clear h1 h2
    generalize KV = T at *
    go_enter Tryz.func64, Tryz.ntmps64
    go_wp2_with (go_at_call 101; (with_reducible refine (CK.out _).mono ?_); rintro e w1 ⟨rfl, hb1⟩; have HB1 := Lib.hid hb1; clear hb1)
    all_goals go_ret
    all_goals exact ⟨rfl, HB1.out⟩
  · have HN : Hid (nameOf k = ⟨#[]⟩) := if_neg h
    rw [HN.out]
    by_cases h1 : k < 1
    · have d1 : decide (k < 1) = true := decide_eq_true h1
      go_enter Tryz.func64, Tryz.ntmps64
      go_wp2
      all_goals go_ret
      all_goals exact ⟨rfl, Below.refl _ _⟩
    · have d1 : decide (k < 1) = false := decide_eq_false h1
      have h2 : 25 < k := by omega
      have d2 : decide (25 < k) = true := decide_eq_true h2
      go_enter Tryz.func64, Tryz.ntmps64
      go_wp2
      all_goals go_ret
      all_goals exact ⟨rfl, Below.refl _ _⟩
/-- The table of blanks is laid. -/
def Tab (w : World) : Prop := Lib.TabIs Tryz.prog w "strings.asciiSpace" .u8 Lib.asciiSpaceTab
theorem Tab.below {w w' : World} (h : Tab w) (hb : Below w.heap.size w w') : Tab w' := by
  have hgn : Tryz.prog.globalNamed "strings.asciiSpace" = some 0 := by kernel_rfl
  unfold Tab Lib.TabIs World.var? at h ⊢
  rw [hgn] at h ⊢
  simp only [Option.bind_some] at h ⊢
  have hlt : 0 < w.heap.size := by
    rcases Nat.lt_or_ge 0 w.heap.size with h' | h'
    · exact h'
    · rw [Array.getElem?_eq_none h'] at h; cases h
  rw [hb.block _ hlt]
  exact h
/-- Strings are given back. -/
def Gives (F : List ByteArray) (w : World) (e : Ending) (w' : World) : Prop := ∃ a cap, e = .returned (.slice a F.length cap) ∧ Hid (In.Strs w' a F) ∧ Hid (Below w.heap.size w w') ∧ Hid (∀ x, a = some x → w.heap.size ≤ x.block)
theorem strs_new {w : World} {g : Nat} (hg : w.heap.size = g) (l : List ByteArray) (t : TypeId) : In.Strs (w.alloc (.cells (l.map Value.string).toArray t)) (some ⟨g, 0, none⟩) l := by
  subst hg
  intro i hi
  refine ⟨w.heap.size, 0, rfl, by simp, ?_⟩
  have h := heap_alloc_new w (.cells (l.map Value.string).toArray t)
  unfold World.cell?
  rw [h]
  simp [List.getD, hi]
theorem tx_fields (n : Nat) (hn : n < 25) : Lib.fields (tx n).data.toList = (fis.getD n []).map fun i => names.getD i [] := fis_text n hn
set_option maxRecDepth 100000 in
theorem fields_any (k : Int) (w : World) (ht : Tab w) : Calls Tryz.prog 65 #[.int .i64 k] w (Gives (fn k) w) := by
  have CK : Hid (∀ w, Calls Tryz.prog 101 #[] w fun e w' => e = .returned (.agg KV) ∧ Below w.heap.size w w') := fun w => kinds_any w
  have HT := Lib.hid ht
  clear ht
  by_cases h : 1 ≤ k ∧ k ≤ 25
  · have hn : (k - 1).toNat < 25 := by omega
    have hi : Hid (∀ w, _) := fun w => kv_at (k - 1).toNat hn w
    have e0 : (((k - 1).toNat : Nat) : Int) = k - 1 := by omega
    rw [e0] at hi
    have HF : Hid ((Lib.fields (tx (k - 1).toNat).data.toList).map (fun l => Value.string ⟨l.toArray⟩) = (fn k).map Value.string) := by
      show _ = _
      unfold fn
      rw [tx_fields _ hn, fi_in h, List.map_map, List.map_map]
      rfl
    have HL : Hid ((Lib.fields (tx (k - 1).toNat).data.toList).length = (fn k).length) := by
      show _ = _
      have := congrArg List.length HF.out
      rw [List.length_map, List.length_map] at this
      exact this
    have CS : Hid (∀ W, Tab W → Calls Tryz.prog 110 #[.string (tx (k - 1).toNat)] W fun e w' => e = .returned (.slice (some ⟨W.heap.size, 0, none⟩) (fn k).length (fn k).length) ∧ w' = W.alloc (.cells ((fn k).map Value.string).toArray 9)) := fun W hW => by
      have hsz : (tx (k - 1).toNat).size < 4294967281 := by
        have := texts_len _ hn
        unfold tx
        rw [Pen.bs_size]
        omega
      have := Tryz.strings_Fields_laid (tx (k - 1).toNat) W hsz (fun j b hb => texts_ascii _ hn b (List.mem_of_getElem? hb)) hW
      rw [HL.out, HF.out] at this
      exact this
    generalize wd (k - 1).toNat = X at *
    generalize tx (k - 1).toNat = Y at *
    generalize fn k = F at *
    clear e0 hn HF HL
    have hi2 := hi.out
    have j0 := two_0 X Y
    have j1 := two_1 X Y
    obtain ⟨h1, h2⟩ := h
    have n1 : ¬ k < 1 := by omega
    have n2 : ¬ 25 < k := by omega
    clear h1 h2
    generalize KV = T at *
    go_enter Tryz.func65, Tryz.ntmps65
    go_wp2_with (first
      | (go_at_call 101; (with_reducible refine (CK.out _).mono ?_); rintro e w1 ⟨rfl, hb1⟩; have HB1 := Lib.hid hb1; clear hb1)
      | (go_at_call 110; (with_reducible refine (CS.out _ (HT.out.below HB1.out)).mono ?_); rintro e w2 ⟨rfl, hw2⟩; replace hw2 := Lib.hid hw2))
    all_goals go_ret
    all_goals exact ⟨_, _, rfl, by rw [hw2.out]; exact strs_new rfl F _, by rw [hw2.out]; exact below_al HB1.out _, fun x hx => by cases hx; exact HB1.out.size⟩
  · have HN : Hid (fn k = []) := by show fn k = []; unfold fn; rw [fi_out h]; rfl
    rw [HN.out]
    have HS : Hid (In.Strs w none []) := fun i hi => absurd hi (Nat.not_lt_zero i)
    by_cases h1 : k < 1
    · have d1 : decide (k < 1) = true := decide_eq_true h1
      go_enter Tryz.func65, Tryz.ntmps65
      go_wp2
      all_goals go_ret
      all_goals exact ⟨none, 0, rfl, HS, Below.refl _ _, fun x hx => by cases hx⟩
    · have d1 : decide (k < 1) = false := decide_eq_false h1
      have h2 : 25 < k := by omega
      have d2 : decide (25 < k) = true := decide_eq_true h2
      go_enter Tryz.func65, Tryz.ntmps65
      go_wp2
      all_goals go_ret
      all_goals exact ⟨none, 0, rfl, HS, Below.refl _ _, fun x hx => by cases hx⟩
end Cmd
end Go.Proofs.YtlhalhilnkneeaaGreatDoor
end
section
namespace Go.Proofs.YtlhalhilnkneeaaGreatDoor
open Go.RowKit Go.Great
namespace Cmd
open Pen (bs)
open In (Strs)
open Rec (below2 below_al below_dN)
theorem beq_yes {a b : ByteArray} (h : a = b) : (a.toList == b.toList) = true := (Lib.bytes_beq_iff a b).2 h
theorem beq_no {a b : ByteArray} (h : a ≠ b) : (a.toList == b.toList) = false := (Lib.bytes_beq_false_iff a b).2 h
/-- All names. -/
def nms : List ByteArray := (List.range 19).map nm
def wds : List ByteArray := (List.range 25).map wd
theorem nms_get (k : Nat) (h : k < 19) : nms.getD k ByteArray.empty = nm k := by simp [nms, List.getD, h]
theorem wds_get (k : Nat) (h : k < 25) : wds.getD k ByteArray.empty = wd k := by simp [wds, List.getD, h]
set_option maxRecDepth 100000 in
theorem refNames_any (w : World) : Calls Tryz.prog 119 #[] w (Gives nms w) := by
  go_enter Tryz.func119, Tryz.ntmps119
  go_wp2
  go_ret
  refine ⟨some ⟨w.heap.size, 0, none⟩, 19, rfl, ?_, below_al (Below.refl _ _) _, fun x hx => by cases hx; exact Nat.le_refl _⟩
  exact strs_new rfl nms _
set_option maxRecDepth 100000 in
theorem refWords_any (w : World) : Calls Tryz.prog 107 #[] w (Gives wds w) := by
  go_enter Tryz.func107, Tryz.ntmps107
  go_wp2
  go_ret
  refine ⟨some ⟨w.heap.size, 0, none⟩, 25, rfl, ?_, below_al (Below.refl _ _) _, fun x hx => by cases hx; exact Nat.le_refl _⟩
  exact strs_new rfl wds _
/-- A place as a number. -/
def plI : Option Nat → Int
  | none => -1
  | some i => i
theorem placeTo_more (s : ByteArray) (k j : Nat) (h : k ≤ j) (i : Nat) (hk : placeTo s k = some i) : placeTo s j = some i := by
  induction j with
  | zero => have : k = 0 := by omega
            subst this; exact hk
  | succ j ih =>
    by_cases e : k = j + 1
    · subst e; exact hk
    · unfold placeTo; rw [ih (by omega)]
theorem kindTo_more (s : ByteArray) (k j : Nat) (h : k ≤ j) (hk : kindTo s k ≠ 0) : kindTo s j = kindTo s k := by
  induction j with
  | zero => have : k = 0 := by omega
            subst this; rfl
  | succ j ih =>
    by_cases e : k = j + 1
    · subst e; rfl
    · rw [kindTo, ih (by omega), if_neg hk]
set_option maxRecDepth 100000 in
theorem place_any (s : ByteArray) (w : World) : Calls Tryz.prog 108 #[.string s] w fun e w' => e = .returned (.int .i64 (plI (place s))) ∧ Below w.heap.size w w' := by
  have CN : Hid (∀ W, Calls Tryz.prog 119 #[] W (Gives nms W)) := fun W => refNames_any W
  have HL : Hid (nms.length = 19) := rfl
  go_enter Tryz.func108, Tryz.ntmps108
  go_wp2_with (go_at_call 119; (with_reducible refine (CN.out _).mono ?_); rintro e w1 ⟨a1, c1, rfl, HS, HB, -⟩; rw [HL.out])
  go_loopw [4] (fun i wr => ∃ k : Nat, k ≤ 19 ∧ i = .int .i64 k ∧ Hid (placeTo s k = none) ∧ Hid (Below w1.heap.size w1 wr)) (fun i _ => 19 - (intOf i).toNat)
  case atStart => exact ⟨0, by omega, rfl, rfl, Below.refl _ _⟩
  case round =>
    obtain ⟨k, hk, rfl, HP, hb⟩ := hrel
    by_cases hlt : k < 19
    · obtain ⟨b, off, rfl, hbl, hc⟩ := (Strs.below HS.out hb.out) k (by rw [HL.out]; exact hlt)
      rw [nms_get k hlt] at hc
      have hlt1 : (k : Int) < 19 := by omega
      have hk0 : (0 : Int) ≤ k := by omega
      have HN : Hid (placeTo s (k + 1) = if nm k = s then some k else none) := by show _ = _; unfold placeTo; rw [HP.out]
      by_cases he : nm k = s
      · have q := beq_yes he
        have HR : Hid (plI (place s) = (k : Int)) := by
          show _ = _
          unfold place
          rw [placeTo_more s (k + 1) 19 (by omega) k (by rw [HN.out, if_pos he])]
          rfl
        generalize nm k = X at *
        clear he HN
        go_wp2
        go_ret
        exact ⟨by rw [HR.out]; rfl, below2 HB.out hb.out⟩
      · have q := beq_no he
        have HQ : Hid (placeTo s (k + 1) = none) := by show _ = _; rw [HN.out, if_neg he]
        generalize nm k = X at *
        clear he HN
        go_wp2
        go_roundw
        case rel => exact ⟨k + 1, by omega, by go_num, HQ, hb⟩
        case measure => simp [intOf]; omega
    · have hke : k = 19 := by omega
      rw [hke] at HP
      have HR : Hid (plI (place s) = -1) := by show plI (placeTo s 19) = -1; rw [HP.out]; rfl
      have n1 : ¬ (k : Int) < 19 := by omega
      clear hke
      go_wp2
      go_ret
      exact ⟨by rw [HR.out]; rfl, below2 HB.out hb.out⟩
/-- Is a string among strings? -/
def isIn (l : List ByteArray) (s : ByteArray) : Bool := l.any fun x => decide (x = s)
theorem isIn_iff (l : List ByteArray) (s : ByteArray) : isIn l s = true ↔ s ∈ l := by
  unfold isIn
  rw [List.any_eq_true]
  constructor
  · rintro ⟨x, hx, h⟩
    rw [← of_decide_eq_true h]
    exact hx
  · exact fun h => ⟨s, h, decide_eq_true rfl⟩
set_option maxRecDepth 100000 in
theorem in_any (a : Option Addr) (c : Nat) (l : List ByteArray) (n : Nat) (hn : l.length = n) (hl : n ≤ 100) (s : ByteArray) (w : World) (ha : Strs w a l) :
    Calls Tryz.prog 120 #[.slice a n c, .string s] w fun e w' => e = .returned (.bool (isIn l s)) ∧ Below w.heap.size w w' := by
  have HA := Lib.hid ha
  have HL := Lib.hid hn
  clear ha hn
  go_enter Tryz.func120, Tryz.ntmps120
  go_wp2
  go_loopw [5] (fun i wr => ∃ k : Nat, k ≤ n ∧ i = .int .i64 k ∧ Hid (∀ j, j < k → l.getD j ByteArray.empty ≠ s) ∧ Hid (Below w.heap.size w wr)) (fun i _ => n - (intOf i).toNat)
  case atStart => exact ⟨0, by omega, rfl, fun j hj => by omega, Below.refl _ _⟩
  case round =>
    obtain ⟨k, hk, rfl, HP, hb⟩ := hrel
    by_cases hlt : k < n
    · obtain ⟨b, off, rfl, hbl, hc⟩ := (Strs.below HA.out hb.out) k (by rw [HL.out]; exact hlt)
      have hlt1 : (k : Int) < (n : Int) := by omega
      have hk0 : (0 : Int) ≤ k := by omega
      by_cases he : l.getD k ByteArray.empty = s
      · have q := beq_yes he
        have HR : Hid (isIn l s = true) := by
          show _ = _
          refine (isIn_iff l s).2 ?_
          rw [← he, List.getD_eq_getElem?_getD, List.getElem?_eq_getElem (by rw [HL.out]; exact hlt)]
          exact List.getElem_mem _
        generalize l.getD k ByteArray.empty = X at *
        clear he
        go_wp2
        go_ret
        exact ⟨by rw [HR.out]; rfl, hb.out⟩
      · have q := beq_no he
        have HQ : Hid (∀ j, j < k + 1 → l.getD j ByteArray.empty ≠ s) := fun j hj => by
          by_cases e : j = k
          · subst e; exact he
          · exact HP.out j (by omega)
        generalize l.getD k ByteArray.empty = X at *
        clear he
        go_wp2
        go_roundw
        case rel => exact ⟨k + 1, by omega, by go_num, HQ, hb⟩
        case measure => simp [intOf]; omega
    · have hke : k = n := by omega
      rw [hke] at HP
      have HR : Hid (isIn l s = false) := by
        show _ = _
        refine Bool.eq_false_iff.2 fun ht => ?_
        have hm := (isIn_iff l s).1 ht
        obtain ⟨j, hj, e⟩ := List.getElem_of_mem hm
        refine HP.out j (by rw [← HL.out]; exact hj) ?_
        rw [List.getD_eq_getElem?_getD, List.getElem?_eq_getElem hj]
        exact e
      have n1 : ¬ (k : Int) < (n : Int) := by omega
      clear hke
      go_wp2
      go_ret
      exact ⟨by rw [HR.out]; rfl, hb.out⟩
set_option maxRecDepth 100000 in
theorem refKind_any (s : ByteArray) (w : World) : Calls Tryz.prog 54 #[.string s] w fun e w' => e = .returned (.int .i64 (kindOf s)) ∧ Below w.heap.size w w' := by
  have CN : Hid (∀ W, Calls Tryz.prog 107 #[] W (Gives wds W)) := fun W => refWords_any W
  have HL : Hid (wds.length = 25) := rfl
  go_enter Tryz.func54, Tryz.ntmps54
  go_wp2_with (go_at_call 107; (with_reducible refine (CN.out _).mono ?_); rintro e w1 ⟨a1, c1, rfl, HS, HB, -⟩; rw [HL.out])
  go_loopw [4] (fun i wr => ∃ k : Nat, k ≤ 25 ∧ i = .int .i64 k ∧ Hid (kindTo s k = 0) ∧ Hid (Below w1.heap.size w1 wr)) (fun i _ => 25 - (intOf i).toNat)
  case atStart => exact ⟨0, by omega, rfl, rfl, Below.refl _ _⟩
  case round =>
    obtain ⟨k, hk, rfl, HP, hb⟩ := hrel
    by_cases hlt : k < 25
    · obtain ⟨b, off, rfl, hbl, hc⟩ := (Strs.below HS.out hb.out) k (by rw [HL.out]; exact hlt)
      rw [wds_get k hlt] at hc
      have hlt1 : (k : Int) < 25 := by omega
      have hk0 : (0 : Int) ≤ k := by omega
      have HN : Hid (kindTo s (k + 1) = if wd k = s then (k : Int) + 1 else 0) := by show _ = _; unfold kindTo; rw [if_pos HP.out]
      by_cases he : wd k = s
      · have q := beq_yes he
        have HR : Hid (kindOf s = (k : Int) + 1) := by
          show _ = _
          unfold kindOf
          rw [kindTo_more s (k + 1) 25 (by omega) (by rw [HN.out, if_pos he]; omega), HN.out, if_pos he]
        have e1 : wrap64 ((k : Int) + 1) = (k : Int) + 1 := by unfold wrap64; omega
        generalize wd k = X at *
        clear he HN
        go_wp2
        go_ret
        exact ⟨by rw [HR.out]; first | rfl | (show Ending.returned (.int .i64 (wrap64 _)) = _; rw [e1]), below2 HB.out hb.out⟩
      · have q := beq_no he
        have HQ : Hid (kindTo s (k + 1) = 0) := by show _ = _; rw [HN.out, if_neg he]
        generalize wd k = X at *
        clear he HN
        go_wp2
        go_roundw
        case rel => exact ⟨k + 1, by omega, by go_num, HQ, hb⟩
        case measure => simp [intOf]; omega
    · have hke : k = 25 := by omega
      rw [hke] at HP
      have HR : Hid (kindOf s = 0) := HP.out
      have n1 : ¬ (k : Int) < 25 := by omega
      clear hke
      go_wp2
      go_ret
      exact ⟨by rw [HR.out]; rfl, below2 HB.out hb.out⟩
set_option maxRecDepth 100000 in
theorem kind_any (s : ByteArray) (w : World) : Calls Tryz.prog 51 #[.string s] w fun e w' => e = .returned (.int .i64 (kindOf s)) ∧ Below w.heap.size w w' := by
  have CK : Hid (∀ w, Calls Tryz.prog 101 #[] w fun e w' => e = .returned (.agg KV) ∧ Below w.heap.size w w') := fun w => kinds_any w
  have HV : Hid (∀ (n : Nat), n < 25 → ∀ w : World, Sem.run Tryz.prog (Instr.index 130 (.agg KV) (.int .i64 (n : Int))) w = Result.ok (Value.agg #[.string (wd n), .string (tx n)]) w) := fun n hn w => kv_at n hn w
  generalize KV = T at *
  go_enter Tryz.func51, Tryz.ntmps51
  go_wp2_with (go_at_call 101; (with_reducible refine (CK.out _).mono ?_); rintro e w1 ⟨rfl, hb1⟩; have HB := Lib.hid hb1; clear hb1)
  go_loopw [6] (fun i wr => ∃ k : Nat, k ≤ 25 ∧ i = .int .i64 k ∧ Hid (kindTo s k = 0) ∧ Hid (Below w1.heap.size w1 wr)) (fun i _ => 25 - (intOf i).toNat)
  case atStart => exact ⟨0, by omega, rfl, rfl, Below.refl _ _⟩
  case round =>
    obtain ⟨k, hk, rfl, HP, hb⟩ := hrel
    by_cases hlt : k < 25
    · have hv := HV.out k hlt
      have hlt1 : (k : Int) < 25 := by omega
      have hk0 : (0 : Int) ≤ k := by omega
      have HN : Hid (kindTo s (k + 1) = if wd k = s then (k : Int) + 1 else 0) := by show _ = _; unfold kindTo; rw [if_pos HP.out]
      by_cases he : wd k = s
      · have q := beq_yes he
        have HR : Hid (kindOf s = (k : Int) + 1) := by
          show _ = _
          unfold kindOf
          rw [kindTo_more s (k + 1) 25 (by omega) (by rw [HN.out, if_pos he]; omega), HN.out, if_pos he]
        have e1 : wrap64 ((k : Int) + 1) = (k : Int) + 1 := by unfold wrap64; omega
        generalize wd k = X at *
        generalize tx k = Y at *
        clear he HN
        go_wp2
        go_ret
        exact ⟨by rw [HR.out]; first | rfl | (show Ending.returned (.int .i64 (wrap64 _)) = _; rw [e1]), below_al (below2 HB.out hb.out) _⟩
      · have q := beq_no he
        have HQ : Hid (kindTo s (k + 1) = 0) := by show _ = _; rw [HN.out, if_neg he]
        generalize wd k = X at *
        generalize tx k = Y at *
        clear he HN
        go_wp2
        go_roundw
        case rel => exact ⟨k + 1, by omega, by go_num, HQ, below_al hb.out _⟩
        case measure => simp [intOf]; omega
    · have hke : k = 25 := by omega
      rw [hke] at HP
      have HR : Hid (kindOf s = 0) := HP.out
      have n1 : ¬ (k : Int) < 25 := by omega
      clear hke
      go_wp2
      go_ret
      exact ⟨by rw [HR.out]; rfl, below2 HB.out hb.out⟩
theorem ext_strs (l m : List ByteArray) (h : l.length = m.length) (hg : ∀ j, j < l.length → l.getD j ByteArray.empty = m.getD j ByteArray.empty) : l = m := by
  apply List.ext_getElem h
  intro j h1 h2
  have := hg j h1
  rwa [List.getD_eq_getElem?_getD, List.getD_eq_getElem?_getD, List.getElem?_eq_getElem h1, List.getElem?_eq_getElem h2] at this
end Cmd
end Go.Proofs.YtlhalhilnkneeaaGreatDoor
end
section
namespace Go.Proofs.YtlhalhilnkneeaaGreatDoor
open Go.RowKit Go.Great
namespace Cmd
open Pen (bs)
open In (Strs)
open Rec (below2 below_al below_dN)
set_option maxRecDepth 100000 in
theorem refName_any (k : Int) (w : World) : Calls Tryz.prog 83 #[.int .i64 k] w fun e w' => e = .returned (.string (nameOf k)) ∧ Below w.heap.size w w' := by
  have CN : Hid (∀ W, Calls Tryz.prog 107 #[] W (Gives wds W)) := fun W => refWords_any W
  have HL : Hid (wds.length = 25) := rfl
  by_cases h : 1 ≤ k ∧ k ≤ 25
  · have HN : Hid (nameOf k = wd (k - 1).toNat) := if_pos h
    rw [HN.out]
    have HG := Lib.hid (wds_get (k - 1).toNat (by omega))
    obtain ⟨m, hm⟩ : ∃ m : Nat, (k - 1).toNat = m := ⟨_, rfl⟩
    have hk : k = (m : Int) + 1 := by omega
    rw [hm] at HG ⊢
    have hm25 : m < 25 := by omega
    have e1 : wrap64 ((m : Int) + 1 - 1) = (m : Int) := by unfold wrap64; omega
    have e2 : (m : Int) + 1 - 1 = (m : Int) := by omega
    have n1 : ¬ (m : Int) + 1 < 1 := by omega
    have n2 : ¬ 25 < (m : Int) + 1 := by omega
    have d1 : decide ((m : Int) + 1 < 1) = false := decide_eq_false n1
    have d2 : decide (25 < (m : Int) + 1) = false := decide_eq_false n2
    subst hk
    clear hm HN
    clear h
    generalize wd m = X at *
    go_enter Tryz.func83, Tryz.ntmps83
    go_wp2_with (go_at_call 107; (with_reducible refine (CN.out _).mono ?_); rintro e w1 ⟨a1, c1, rfl, HS, HB, -⟩; rw [HL.out]; have hc0 := HS.out m (by rw [HL.out]; exact hm25); (obtain ⟨b, off, rfl, hbl, hc⟩ := hc0); rw [HG.out] at hc)
    all_goals go_ret
    all_goals exact ⟨rfl, HB.out⟩
  · have HN : Hid (nameOf k = ⟨#[]⟩) := if_neg h
    rw [HN.out]
    by_cases h1 : k < 1
    · have d1 : decide (k < 1) = true := decide_eq_true h1
      go_enter Tryz.func83, Tryz.ntmps83
      go_wp2
      all_goals go_ret
      all_goals exact ⟨rfl, Below.refl _ _⟩
    · have d1 : decide (k < 1) = false := decide_eq_false h1
      have h2 : 25 < k := by omega
      have d2 : decide (25 < k) = true := decide_eq_true h2
      go_enter Tryz.func83, Tryz.ntmps83
      go_wp2
      all_goals go_ret
      all_goals exact ⟨rfl, Below.refl _ _⟩
set_option maxRecDepth 100000 in
theorem refFields_1 (w : World) : Calls Tryz.prog 59 #[.int .i64 1] w (Gives (fn 1) w) := by
  go_enter Tryz.func59, Tryz.ntmps59
  go_wp2
  go_ret
  exact ⟨some ⟨w.heap.size, 0, none⟩, 2, rfl, strs_new rfl (fn 1) _, below_al (Below.refl _ _) _, fun x hx => by cases hx; exact Nat.le_refl _⟩
set_option maxRecDepth 100000 in
theorem refFields_2 (w : World) : Calls Tryz.prog 59 #[.int .i64 2] w (Gives (fn 2) w) := by
  go_enter Tryz.func59, Tryz.ntmps59
  go_wp2
  go_ret
  exact ⟨some ⟨w.heap.size, 0, none⟩, 5, rfl, strs_new rfl (fn 2) _, below_al (Below.refl _ _) _, fun x hx => by cases hx; exact Nat.le_refl _⟩
set_option maxRecDepth 100000 in
theorem refFields_3 (w : World) : Calls Tryz.prog 59 #[.int .i64 3] w (Gives (fn 3) w) := by
  go_enter Tryz.func59, Tryz.ntmps59
  go_wp2
  go_ret
  exact ⟨some ⟨w.heap.size, 0, none⟩, 7, rfl, strs_new rfl (fn 3) _, below_al (Below.refl _ _) _, fun x hx => by cases hx; exact Nat.le_refl _⟩
set_option maxRecDepth 100000 in
theorem refFields_4 (w : World) : Calls Tryz.prog 59 #[.int .i64 4] w (Gives (fn 4) w) := by
  go_enter Tryz.func59, Tryz.ntmps59
  go_wp2
  go_ret
  exact ⟨some ⟨w.heap.size, 0, none⟩, 1, rfl, strs_new rfl (fn 4) _, below_al (Below.refl _ _) _, fun x hx => by cases hx; exact Nat.le_refl _⟩
set_option maxRecDepth 100000 in
theorem refFields_5 (w : World) : Calls Tryz.prog 59 #[.int .i64 5] w (Gives (fn 5) w) := by
  go_enter Tryz.func59, Tryz.ntmps59
  go_wp2
  go_ret
  exact ⟨some ⟨w.heap.size, 0, none⟩, 4, rfl, strs_new rfl (fn 5) _, below_al (Below.refl _ _) _, fun x hx => by cases hx; exact Nat.le_refl _⟩
set_option maxRecDepth 100000 in
theorem refFields_6 (w : World) : Calls Tryz.prog 59 #[.int .i64 6] w (Gives (fn 6) w) := by
  go_enter Tryz.func59, Tryz.ntmps59
  go_wp2
  go_ret
  exact ⟨some ⟨w.heap.size, 0, none⟩, 3, rfl, strs_new rfl (fn 6) _, below_al (Below.refl _ _) _, fun x hx => by cases hx; exact Nat.le_refl _⟩
set_option maxRecDepth 100000 in
theorem refFields_7 (w : World) : Calls Tryz.prog 59 #[.int .i64 7] w (Gives (fn 7) w) := by
  go_enter Tryz.func59, Tryz.ntmps59
  go_wp2
  go_ret
  exact ⟨some ⟨w.heap.size, 0, none⟩, 4, rfl, strs_new rfl (fn 7) _, below_al (Below.refl _ _) _, fun x hx => by cases hx; exact Nat.le_refl _⟩
set_option maxRecDepth 100000 in
theorem refFields_8 (w : World) : Calls Tryz.prog 59 #[.int .i64 8] w (Gives (fn 8) w) := by
  go_enter Tryz.func59, Tryz.ntmps59
  go_wp2
  go_ret
  exact ⟨some ⟨w.heap.size, 0, none⟩, 8, rfl, strs_new rfl (fn 8) _, below_al (Below.refl _ _) _, fun x hx => by cases hx; exact Nat.le_refl _⟩
set_option maxRecDepth 100000 in
theorem refFields_9 (w : World) : Calls Tryz.prog 59 #[.int .i64 9] w (Gives (fn 9) w) := by
  go_enter Tryz.func59, Tryz.ntmps59
  go_wp2
  go_ret
  exact ⟨some ⟨w.heap.size, 0, none⟩, 8, rfl, strs_new rfl (fn 9) _, below_al (Below.refl _ _) _, fun x hx => by cases hx; exact Nat.le_refl _⟩
set_option maxRecDepth 100000 in
theorem refFields_10 (w : World) : Calls Tryz.prog 59 #[.int .i64 10] w (Gives (fn 10) w) := by
  go_enter Tryz.func59, Tryz.ntmps59
  go_wp2
  go_ret
  exact ⟨some ⟨w.heap.size, 0, none⟩, 2, rfl, strs_new rfl (fn 10) _, below_al (Below.refl _ _) _, fun x hx => by cases hx; exact Nat.le_refl _⟩
set_option maxRecDepth 100000 in
theorem refFields_11 (w : World) : Calls Tryz.prog 59 #[.int .i64 11] w (Gives (fn 11) w) := by
  go_enter Tryz.func59, Tryz.ntmps59
  go_wp2
  go_ret
  exact ⟨some ⟨w.heap.size, 0, none⟩, 2, rfl, strs_new rfl (fn 11) _, below_al (Below.refl _ _) _, fun x hx => by cases hx; exact Nat.le_refl _⟩
set_option maxRecDepth 100000 in
theorem refFields_12 (w : World) : Calls Tryz.prog 59 #[.int .i64 12] w (Gives (fn 12) w) := by
  go_enter Tryz.func59, Tryz.ntmps59
  go_wp2
  go_ret
  exact ⟨some ⟨w.heap.size, 0, none⟩, 2, rfl, strs_new rfl (fn 12) _, below_al (Below.refl _ _) _, fun x hx => by cases hx; exact Nat.le_refl _⟩
set_option maxRecDepth 100000 in
theorem refFields_13 (w : World) : Calls Tryz.prog 59 #[.int .i64 13] w (Gives (fn 13) w) := by
  go_enter Tryz.func59, Tryz.ntmps59
  go_wp2
  go_ret
  exact ⟨some ⟨w.heap.size, 0, none⟩, 2, rfl, strs_new rfl (fn 13) _, below_al (Below.refl _ _) _, fun x hx => by cases hx; exact Nat.le_refl _⟩
set_option maxRecDepth 100000 in
theorem refFields_14 (w : World) : Calls Tryz.prog 59 #[.int .i64 14] w (Gives (fn 14) w) := by
  go_enter Tryz.func59, Tryz.ntmps59
  go_wp2
  go_ret
  exact ⟨some ⟨w.heap.size, 0, none⟩, 11, rfl, strs_new rfl (fn 14) _, below_al (Below.refl _ _) _, fun x hx => by cases hx; exact Nat.le_refl _⟩
set_option maxRecDepth 100000 in
theorem refFields_15 (w : World) : Calls Tryz.prog 59 #[.int .i64 15] w (Gives (fn 15) w) := by
  go_enter Tryz.func59, Tryz.ntmps59
  go_wp2
  go_ret
  exact ⟨some ⟨w.heap.size, 0, none⟩, 4, rfl, strs_new rfl (fn 15) _, below_al (Below.refl _ _) _, fun x hx => by cases hx; exact Nat.le_refl _⟩
set_option maxRecDepth 100000 in
theorem refFields_16 (w : World) : Calls Tryz.prog 59 #[.int .i64 16] w (Gives (fn 16) w) := by
  go_enter Tryz.func59, Tryz.ntmps59
  go_wp2
  go_ret
  exact ⟨some ⟨w.heap.size, 0, none⟩, 2, rfl, strs_new rfl (fn 16) _, below_al (Below.refl _ _) _, fun x hx => by cases hx; exact Nat.le_refl _⟩
set_option maxRecDepth 100000 in
theorem refFields_17 (w : World) : Calls Tryz.prog 59 #[.int .i64 17] w (Gives (fn 17) w) := by
  go_enter Tryz.func59, Tryz.ntmps59
  go_wp2
  go_ret
  exact ⟨some ⟨w.heap.size, 0, none⟩, 2, rfl, strs_new rfl (fn 17) _, below_al (Below.refl _ _) _, fun x hx => by cases hx; exact Nat.le_refl _⟩
set_option maxRecDepth 100000 in
theorem refFields_18 (w : World) : Calls Tryz.prog 59 #[.int .i64 18] w (Gives (fn 18) w) := by
  go_enter Tryz.func59, Tryz.ntmps59
  go_wp2
  go_ret
  exact ⟨some ⟨w.heap.size, 0, none⟩, 2, rfl, strs_new rfl (fn 18) _, below_al (Below.refl _ _) _, fun x hx => by cases hx; exact Nat.le_refl _⟩
set_option maxRecDepth 100000 in
theorem refFields_19 (w : World) : Calls Tryz.prog 59 #[.int .i64 19] w (Gives (fn 19) w) := by
  go_enter Tryz.func59, Tryz.ntmps59
  go_wp2
  go_ret
  exact ⟨some ⟨w.heap.size, 0, none⟩, 2, rfl, strs_new rfl (fn 19) _, below_al (Below.refl _ _) _, fun x hx => by cases hx; exact Nat.le_refl _⟩
set_option maxRecDepth 100000 in
theorem refFields_20 (w : World) : Calls Tryz.prog 59 #[.int .i64 20] w (Gives (fn 20) w) := by
  go_enter Tryz.func59, Tryz.ntmps59
  go_wp2
  go_ret
  exact ⟨some ⟨w.heap.size, 0, none⟩, 1, rfl, strs_new rfl (fn 20) _, below_al (Below.refl _ _) _, fun x hx => by cases hx; exact Nat.le_refl _⟩
set_option maxRecDepth 100000 in
theorem refFields_21 (w : World) : Calls Tryz.prog 59 #[.int .i64 21] w (Gives (fn 21) w) := by
  go_enter Tryz.func59, Tryz.ntmps59
  go_wp2
  go_ret
  exact ⟨some ⟨w.heap.size, 0, none⟩, 2, rfl, strs_new rfl (fn 21) _, below_al (Below.refl _ _) _, fun x hx => by cases hx; exact Nat.le_refl _⟩
set_option maxRecDepth 100000 in
theorem refFields_22 (w : World) : Calls Tryz.prog 59 #[.int .i64 22] w (Gives (fn 22) w) := by
  go_enter Tryz.func59, Tryz.ntmps59
  go_wp2
  go_ret
  exact ⟨some ⟨w.heap.size, 0, none⟩, 5, rfl, strs_new rfl (fn 22) _, below_al (Below.refl _ _) _, fun x hx => by cases hx; exact Nat.le_refl _⟩
set_option maxRecDepth 100000 in
theorem refFields_23 (w : World) : Calls Tryz.prog 59 #[.int .i64 23] w (Gives (fn 23) w) := by
  go_enter Tryz.func59, Tryz.ntmps59
  go_wp2
  go_ret
  exact ⟨some ⟨w.heap.size, 0, none⟩, 2, rfl, strs_new rfl (fn 23) _, below_al (Below.refl _ _) _, fun x hx => by cases hx; exact Nat.le_refl _⟩
set_option maxRecDepth 100000 in
theorem refFields_24 (w : World) : Calls Tryz.prog 59 #[.int .i64 24] w (Gives (fn 24) w) := by
  go_enter Tryz.func59, Tryz.ntmps59
  go_wp2
  go_ret
  exact ⟨some ⟨w.heap.size, 0, none⟩, 2, rfl, strs_new rfl (fn 24) _, below_al (Below.refl _ _) _, fun x hx => by cases hx; exact Nat.le_refl _⟩
set_option maxRecDepth 100000 in
theorem refFields_25 (w : World) : Calls Tryz.prog 59 #[.int .i64 25] w (Gives (fn 25) w) := by
  go_enter Tryz.func59, Tryz.ntmps59
  go_wp2
  go_ret
  exact ⟨some ⟨w.heap.size, 0, none⟩, 1, rfl, strs_new rfl (fn 25) _, below_al (Below.refl _ _) _, fun x hx => by cases hx; exact Nat.le_refl _⟩
set_option maxRecDepth 100000 in
theorem refFields_no (k : Int) (h : ¬ (1 ≤ k ∧ k ≤ 25)) (w : World) : Calls Tryz.prog 59 #[.int .i64 k] w (Gives (fn k) w) := by
  have HN : Hid (fn k = []) := by show fn k = []; unfold fn; rw [fi_out h]; rfl
  rw [HN.out]
  have HS : Hid (In.Strs w none []) := fun i hi => absurd hi (Nat.not_lt_zero i)
  have n1 : ¬ k = 1 := by omega
  have d1 : (k == 1) = false := beq_eq_false_iff_ne.2 n1
  have n2 : ¬ k = 2 := by omega
  have d2 : (k == 2) = false := beq_eq_false_iff_ne.2 n2
  have n3 : ¬ k = 3 := by omega
  have d3 : (k == 3) = false := beq_eq_false_iff_ne.2 n3
  have n4 : ¬ k = 4 := by omega
  have d4 : (k == 4) = false := beq_eq_false_iff_ne.2 n4
  have n5 : ¬ k = 5 := by omega
  have d5 : (k == 5) = false := beq_eq_false_iff_ne.2 n5
  have n6 : ¬ k = 6 := by omega
  have d6 : (k == 6) = false := beq_eq_false_iff_ne.2 n6
  have n7 : ¬ k = 7 := by omega
  have d7 : (k == 7) = false := beq_eq_false_iff_ne.2 n7
  have n8 : ¬ k = 8 := by omega
  have d8 : (k == 8) = false := beq_eq_false_iff_ne.2 n8
  have n9 : ¬ k = 9 := by omega
  have d9 : (k == 9) = false := beq_eq_false_iff_ne.2 n9
  have n10 : ¬ k = 10 := by omega
  have d10 : (k == 10) = false := beq_eq_false_iff_ne.2 n10
  have n11 : ¬ k = 11 := by omega
  have d11 : (k == 11) = false := beq_eq_false_iff_ne.2 n11
  have n12 : ¬ k = 12 := by omega
  have d12 : (k == 12) = false := beq_eq_false_iff_ne.2 n12
  have n13 : ¬ k = 13 := by omega
  have d13 : (k == 13) = false := beq_eq_false_iff_ne.2 n13
  have n14 : ¬ k = 14 := by omega
  have d14 : (k == 14) = false := beq_eq_false_iff_ne.2 n14
  have n15 : ¬ k = 15 := by omega
  have d15 : (k == 15) = false := beq_eq_false_iff_ne.2 n15
  have n16 : ¬ k = 16 := by omega
  have d16 : (k == 16) = false := beq_eq_false_iff_ne.2 n16
  have n17 : ¬ k = 17 := by omega
  have d17 : (k == 17) = false := beq_eq_false_iff_ne.2 n17
  have n18 : ¬ k = 18 := by omega
  have d18 : (k == 18) = false := beq_eq_false_iff_ne.2 n18
  have n19 : ¬ k = 19 := by omega
  have d19 : (k == 19) = false := beq_eq_false_iff_ne.2 n19
  have n20 : ¬ k = 20 := by omega
  have d20 : (k == 20) = false := beq_eq_false_iff_ne.2 n20
  have n21 : ¬ k = 21 := by omega
  have d21 : (k == 21) = false := beq_eq_false_iff_ne.2 n21
  have n22 : ¬ k = 22 := by omega
  have d22 : (k == 22) = false := beq_eq_false_iff_ne.2 n22
  have n23 : ¬ k = 23 := by omega
  have d23 : (k == 23) = false := beq_eq_false_iff_ne.2 n23
  have n24 : ¬ k = 24 := by omega
  have d24 : (k == 24) = false := beq_eq_false_iff_ne.2 n24
  have n25 : ¬ k = 25 := by omega
  have d25 : (k == 25) = false := beq_eq_false_iff_ne.2 n25
  clear h HN
  go_enter Tryz.func59, Tryz.ntmps59
  go_wp2
  all_goals go_ret
  all_goals exact ⟨none, 0, rfl, HS, Below.refl _ _, fun x hx => by cases hx⟩
theorem refFields_any (k : Int) (w : World) : Calls Tryz.prog 59 #[.int .i64 k] w (Gives (fn k) w) := by
  by_cases h : 1 ≤ k ∧ k ≤ 25
  · obtain ⟨m, hm⟩ : ∃ m : Nat, (k - 1).toNat = m := ⟨_, rfl⟩
    have hk : k = (m : Int) + 1 := by omega
    have hm25 : m < 25 := by omega
    subst hk
    match m, hm25 with
    | 0, _ => exact refFields_1 w
    | 1, _ => exact refFields_2 w
    | 2, _ => exact refFields_3 w
    | 3, _ => exact refFields_4 w
    | 4, _ => exact refFields_5 w
    | 5, _ => exact refFields_6 w
    | 6, _ => exact refFields_7 w
    | 7, _ => exact refFields_8 w
    | 8, _ => exact refFields_9 w
    | 9, _ => exact refFields_10 w
    | 10, _ => exact refFields_11 w
    | 11, _ => exact refFields_12 w
    | 12, _ => exact refFields_13 w
    | 13, _ => exact refFields_14 w
    | 14, _ => exact refFields_15 w
    | 15, _ => exact refFields_16 w
    | 16, _ => exact refFields_17 w
    | 17, _ => exact refFields_18 w
    | 18, _ => exact refFields_19 w
    | 19, _ => exact refFields_20 w
    | 20, _ => exact refFields_21 w
    | 21, _ => exact refFields_22 w
    | 22, _ => exact refFields_23 w
    | 23, _ => exact refFields_24 w
    | 24, _ => exact refFields_25 w
    | n + 25, h => omega
  · exact refFields_no k h w
end Cmd
end Go.Proofs.YtlhalhilnkneeaaGreatDoor
end
section
namespace Go.Proofs.YtlhalhilnkneeaaGreatDoor
open Go.RowKit
namespace Cmd
open Pen (bs)
def at0 (g : Nat) : Option Nat → Option Addr
  | none => none
  | some i => some ⟨g, 1 + i, none⟩
set_option maxRecDepth 100000 in
theorem field_0 (g : Nat) (w : World) : Calls Tryz.prog 74 #[.pointer (some ⟨g, 0, none⟩), .string (nm 0)] w fun e w' => e = .returned (.pointer (some ⟨g, 1, none⟩)) ∧ w = w' := by
  have e : nm 0 = ⟨#[119, 104, 111]⟩ := by decide +kernel
  rw [e]
  go_enter Tryz.func74, Tryz.ntmps74
  go_wp2
  go_ret
  exact ⟨rfl, rfl⟩
set_option maxRecDepth 100000 in
theorem field_1 (g : Nat) (w : World) : Calls Tryz.prog 74 #[.pointer (some ⟨g, 0, none⟩), .string (nm 1)] w fun e w' => e = .returned (.pointer (some ⟨g, 2, none⟩)) ∧ w = w' := by
  have e : nm 1 = ⟨#[97, 115]⟩ := by decide +kernel
  rw [e]
  go_enter Tryz.func74, Tryz.ntmps74
  go_wp2
  go_ret
  exact ⟨rfl, rfl⟩
set_option maxRecDepth 100000 in
theorem field_2 (g : Nat) (w : World) : Calls Tryz.prog 74 #[.pointer (some ⟨g, 0, none⟩), .string (nm 2)] w fun e w' => e = .returned (.pointer (some ⟨g, 3, none⟩)) ∧ w = w' := by
  have e : nm 2 = ⟨#[100, 105, 118]⟩ := by decide +kernel
  rw [e]
  go_enter Tryz.func74, Tryz.ntmps74
  go_wp2
  go_ret
  exact ⟨rfl, rfl⟩
set_option maxRecDepth 100000 in
theorem field_3 (g : Nat) (w : World) : Calls Tryz.prog 74 #[.pointer (some ⟨g, 0, none⟩), .string (nm 3)] w fun e w' => e = .returned (.pointer (some ⟨g, 4, none⟩)) ∧ w = w' := by
  have e : nm 3 = ⟨#[105, 100]⟩ := by decide +kernel
  rw [e]
  go_enter Tryz.func74, Tryz.ntmps74
  go_wp2
  go_ret
  exact ⟨rfl, rfl⟩
set_option maxRecDepth 100000 in
theorem field_4 (g : Nat) (w : World) : Calls Tryz.prog 74 #[.pointer (some ⟨g, 0, none⟩), .string (nm 4)] w fun e w' => e = .returned (.pointer (some ⟨g, 5, none⟩)) ∧ w = w' := by
  have e : nm 4 = ⟨#[116, 111]⟩ := by decide +kernel
  rw [e]
  go_enter Tryz.func74, Tryz.ntmps74
  go_wp2
  go_ret
  exact ⟨rfl, rfl⟩
set_option maxRecDepth 100000 in
theorem field_5 (g : Nat) (w : World) : Calls Tryz.prog 74 #[.pointer (some ⟨g, 0, none⟩), .string (nm 5)] w fun e w' => e = .returned (.pointer (some ⟨g, 6, none⟩)) ∧ w = w' := by
  have e : nm 5 = ⟨#[105, 110, 116, 111]⟩ := by decide +kernel
  rw [e]
  go_enter Tryz.func74, Tryz.ntmps74
  go_wp2
  go_ret
  exact ⟨rfl, rfl⟩
set_option maxRecDepth 100000 in
theorem field_6 (g : Nat) (w : World) : Calls Tryz.prog 74 #[.pointer (some ⟨g, 0, none⟩), .string (nm 6)] w fun e w' => e = .returned (.pointer (some ⟨g, 7, none⟩)) ∧ w = w' := by
  have e : nm 6 = ⟨#[112, 108, 97, 99, 101]⟩ := by decide +kernel
  rw [e]
  go_enter Tryz.func74, Tryz.ntmps74
  go_wp2
  go_ret
  exact ⟨rfl, rfl⟩
set_option maxRecDepth 100000 in
theorem field_7 (g : Nat) (w : World) : Calls Tryz.prog 74 #[.pointer (some ⟨g, 0, none⟩), .string (nm 7)] w fun e w' => e = .returned (.pointer (some ⟨g, 8, none⟩)) ∧ w = w' := by
  have e : nm 7 = ⟨#[100, 101, 115, 116]⟩ := by decide +kernel
  rw [e]
  go_enter Tryz.func74, Tryz.ntmps74
  go_wp2
  go_ret
  exact ⟨rfl, rfl⟩
set_option maxRecDepth 100000 in
theorem field_8 (g : Nat) (w : World) : Calls Tryz.prog 74 #[.pointer (some ⟨g, 0, none⟩), .string (nm 8)] w fun e w' => e = .returned (.pointer (some ⟨g, 9, none⟩)) ∧ w = w' := by
  have e : nm 8 = ⟨#[116, 121, 112, 101]⟩ := by decide +kernel
  rw [e]
  go_enter Tryz.func74, Tryz.ntmps74
  go_wp2
  go_ret
  exact ⟨rfl, rfl⟩
set_option maxRecDepth 100000 in
theorem field_9 (g : Nat) (w : World) : Calls Tryz.prog 74 #[.pointer (some ⟨g, 0, none⟩), .string (nm 9)] w fun e w' => e = .returned (.pointer (some ⟨g, 10, none⟩)) ∧ w = w' := by
  have e : nm 9 = ⟨#[110]⟩ := by decide +kernel
  rw [e]
  go_enter Tryz.func74, Tryz.ntmps74
  go_wp2
  go_ret
  exact ⟨rfl, rfl⟩
set_option maxRecDepth 100000 in
theorem field_10 (g : Nat) (w : World) : Calls Tryz.prog 74 #[.pointer (some ⟨g, 0, none⟩), .string (nm 10)] w fun e w' => e = .returned (.pointer (some ⟨g, 11, none⟩)) ∧ w = w' := by
  have e : nm 10 = ⟨#[112, 108, 101, 100, 103, 101]⟩ := by decide +kernel
  rw [e]
  go_enter Tryz.func74, Tryz.ntmps74
  go_wp2
  go_ret
  exact ⟨rfl, rfl⟩
set_option maxRecDepth 100000 in
theorem field_11 (g : Nat) (w : World) : Calls Tryz.prog 74 #[.pointer (some ⟨g, 0, none⟩), .string (nm 11)] w fun e w' => e = .returned (.pointer (some ⟨g, 12, none⟩)) ∧ w = w' := by
  have e : nm 11 = ⟨#[108, 97, 115, 116, 115]⟩ := by decide +kernel
  rw [e]
  go_enter Tryz.func74, Tryz.ntmps74
  go_wp2
  go_ret
  exact ⟨rfl, rfl⟩
set_option maxRecDepth 100000 in
theorem field_12 (g : Nat) (w : World) : Calls Tryz.prog 74 #[.pointer (some ⟨g, 0, none⟩), .string (nm 12)] w fun e w' => e = .returned (.pointer (some ⟨g, 13, none⟩)) ∧ w = w' := by
  have e : nm 12 = ⟨#[100, 97, 121, 115]⟩ := by decide +kernel
  rw [e]
  go_enter Tryz.func74, Tryz.ntmps74
  go_wp2
  go_ret
  exact ⟨rfl, rfl⟩
set_option maxRecDepth 100000 in
theorem field_13 (g : Nat) (w : World) : Calls Tryz.prog 74 #[.pointer (some ⟨g, 0, none⟩), .string (nm 13)] w fun e w' => e = .returned (.pointer (some ⟨g, 14, none⟩)) ∧ w = w' := by
  have e : nm 13 = ⟨#[114, 117, 110, 115]⟩ := by decide +kernel
  rw [e]
  go_enter Tryz.func74, Tryz.ntmps74
  go_wp2
  go_ret
  exact ⟨rfl, rfl⟩
set_option maxRecDepth 100000 in
theorem field_14 (g : Nat) (w : World) : Calls Tryz.prog 74 #[.pointer (some ⟨g, 0, none⟩), .string (nm 14)] w fun e w' => e = .returned (.pointer (some ⟨g, 15, none⟩)) ∧ w = w' := by
  have e : nm 14 = ⟨#[99, 111, 112, 105, 101, 115]⟩ := by decide +kernel
  rw [e]
  go_enter Tryz.func74, Tryz.ntmps74
  go_wp2
  go_ret
  exact ⟨rfl, rfl⟩
set_option maxRecDepth 100000 in
theorem field_15 (g : Nat) (w : World) : Calls Tryz.prog 74 #[.pointer (some ⟨g, 0, none⟩), .string (nm 15)] w fun e w' => e = .returned (.pointer (some ⟨g, 16, none⟩)) ∧ w = w' := by
  have e : nm 15 = ⟨#[114, 111, 108, 101, 115]⟩ := by decide +kernel
  rw [e]
  go_enter Tryz.func74, Tryz.ntmps74
  go_wp2
  go_ret
  exact ⟨rfl, rfl⟩
set_option maxRecDepth 100000 in
theorem field_16 (g : Nat) (w : World) : Calls Tryz.prog 74 #[.pointer (some ⟨g, 0, none⟩), .string (nm 16)] w fun e w' => e = .returned (.pointer (some ⟨g, 17, none⟩)) ∧ w = w' := by
  have e : nm 16 = ⟨#[109, 101]⟩ := by decide +kernel
  rw [e]
  go_enter Tryz.func74, Tryz.ntmps74
  go_wp2
  go_ret
  exact ⟨rfl, rfl⟩
set_option maxRecDepth 100000 in
theorem field_17 (g : Nat) (w : World) : Calls Tryz.prog 74 #[.pointer (some ⟨g, 0, none⟩), .string (nm 17)] w fun e w' => e = .returned (.pointer (some ⟨g, 18, none⟩)) ∧ w = w' := by
  have e : nm 17 = ⟨#[116, 101]⟩ := by decide +kernel
  rw [e]
  go_enter Tryz.func74, Tryz.ntmps74
  go_wp2
  go_ret
  exact ⟨rfl, rfl⟩
set_option maxRecDepth 100000 in
theorem field_18 (g : Nat) (w : World) : Calls Tryz.prog 74 #[.pointer (some ⟨g, 0, none⟩), .string (nm 18)] w fun e w' => e = .returned (.pointer (some ⟨g, 19, none⟩)) ∧ w = w' := by
  have e : nm 18 = ⟨#[98, 97, 121]⟩ := by decide +kernel
  rw [e]
  go_enter Tryz.func74, Tryz.ntmps74
  go_wp2
  go_ret
  exact ⟨rfl, rfl⟩
set_option maxRecDepth 100000 in
theorem field_no (g : Nat) (s : ByteArray) (hs : ∀ i, i < 19 → nm i ≠ s) (w : World) : Calls Tryz.prog 74 #[.pointer (some ⟨g, 0, none⟩), .string s] w fun e w' => e = .returned (.pointer none) ∧ w = w' := by
  have h0 : (s.toList == [119, 104, 111]) = false := by rw [← show (⟨#[119, 104, 111]⟩ : ByteArray).toList = [119, 104, 111] by decide +kernel]; exact (Lib.bytes_beq_false_iff s ⟨#[119, 104, 111]⟩).2 fun e => hs 0 (by decide) (e.trans (show (⟨#[119, 104, 111]⟩ : ByteArray) = nm 0 by decide +kernel)).symm
  have h1 : (s.toList == [97, 115]) = false := by rw [← show (⟨#[97, 115]⟩ : ByteArray).toList = [97, 115] by decide +kernel]; exact (Lib.bytes_beq_false_iff s ⟨#[97, 115]⟩).2 fun e => hs 1 (by decide) (e.trans (show (⟨#[97, 115]⟩ : ByteArray) = nm 1 by decide +kernel)).symm
  have h2 : (s.toList == [100, 105, 118]) = false := by rw [← show (⟨#[100, 105, 118]⟩ : ByteArray).toList = [100, 105, 118] by decide +kernel]; exact (Lib.bytes_beq_false_iff s ⟨#[100, 105, 118]⟩).2 fun e => hs 2 (by decide) (e.trans (show (⟨#[100, 105, 118]⟩ : ByteArray) = nm 2 by decide +kernel)).symm
  have h3 : (s.toList == [105, 100]) = false := by rw [← show (⟨#[105, 100]⟩ : ByteArray).toList = [105, 100] by decide +kernel]; exact (Lib.bytes_beq_false_iff s ⟨#[105, 100]⟩).2 fun e => hs 3 (by decide) (e.trans (show (⟨#[105, 100]⟩ : ByteArray) = nm 3 by decide +kernel)).symm
  have h4 : (s.toList == [116, 111]) = false := by rw [← show (⟨#[116, 111]⟩ : ByteArray).toList = [116, 111] by decide +kernel]; exact (Lib.bytes_beq_false_iff s ⟨#[116, 111]⟩).2 fun e => hs 4 (by decide) (e.trans (show (⟨#[116, 111]⟩ : ByteArray) = nm 4 by decide +kernel)).symm
  have h5 : (s.toList == [105, 110, 116, 111]) = false := by rw [← show (⟨#[105, 110, 116, 111]⟩ : ByteArray).toList = [105, 110, 116, 111] by decide +kernel]; exact (Lib.bytes_beq_false_iff s ⟨#[105, 110, 116, 111]⟩).2 fun e => hs 5 (by decide) (e.trans (show (⟨#[105, 110, 116, 111]⟩ : ByteArray) = nm 5 by decide +kernel)).symm
  have h6 : (s.toList == [112, 108, 97, 99, 101]) = false := by rw [← show (⟨#[112, 108, 97, 99, 101]⟩ : ByteArray).toList = [112, 108, 97, 99, 101] by decide +kernel]; exact (Lib.bytes_beq_false_iff s ⟨#[112, 108, 97, 99, 101]⟩).2 fun e => hs 6 (by decide) (e.trans (show (⟨#[112, 108, 97, 99, 101]⟩ : ByteArray) = nm 6 by decide +kernel)).symm
  have h7 : (s.toList == [100, 101, 115, 116]) = false := by rw [← show (⟨#[100, 101, 115, 116]⟩ : ByteArray).toList = [100, 101, 115, 116] by decide +kernel]; exact (Lib.bytes_beq_false_iff s ⟨#[100, 101, 115, 116]⟩).2 fun e => hs 7 (by decide) (e.trans (show (⟨#[100, 101, 115, 116]⟩ : ByteArray) = nm 7 by decide +kernel)).symm
  have h8 : (s.toList == [116, 121, 112, 101]) = false := by rw [← show (⟨#[116, 121, 112, 101]⟩ : ByteArray).toList = [116, 121, 112, 101] by decide +kernel]; exact (Lib.bytes_beq_false_iff s ⟨#[116, 121, 112, 101]⟩).2 fun e => hs 8 (by decide) (e.trans (show (⟨#[116, 121, 112, 101]⟩ : ByteArray) = nm 8 by decide +kernel)).symm
  have h9 : (s.toList == [110]) = false := by rw [← show (⟨#[110]⟩ : ByteArray).toList = [110] by decide +kernel]; exact (Lib.bytes_beq_false_iff s ⟨#[110]⟩).2 fun e => hs 9 (by decide) (e.trans (show (⟨#[110]⟩ : ByteArray) = nm 9 by decide +kernel)).symm
  have h10 : (s.toList == [112, 108, 101, 100, 103, 101]) = false := by rw [← show (⟨#[112, 108, 101, 100, 103, 101]⟩ : ByteArray).toList = [112, 108, 101, 100, 103, 101] by decide +kernel]; exact (Lib.bytes_beq_false_iff s ⟨#[112, 108, 101, 100, 103, 101]⟩).2 fun e => hs 10 (by decide) (e.trans (show (⟨#[112, 108, 101, 100, 103, 101]⟩ : ByteArray) = nm 10 by decide +kernel)).symm
  have h11 : (s.toList == [108, 97, 115, 116, 115]) = false := by rw [← show (⟨#[108, 97, 115, 116, 115]⟩ : ByteArray).toList = [108, 97, 115, 116, 115] by decide +kernel]; exact (Lib.bytes_beq_false_iff s ⟨#[108, 97, 115, 116, 115]⟩).2 fun e => hs 11 (by decide) (e.trans (show (⟨#[108, 97, 115, 116, 115]⟩ : ByteArray) = nm 11 by decide +kernel)).symm
  have h12 : (s.toList == [100, 97, 121, 115]) = false := by rw [← show (⟨#[100, 97, 121, 115]⟩ : ByteArray).toList = [100, 97, 121, 115] by decide +kernel]; exact (Lib.bytes_beq_false_iff s ⟨#[100, 97, 121, 115]⟩).2 fun e => hs 12 (by decide) (e.trans (show (⟨#[100, 97, 121, 115]⟩ : ByteArray) = nm 12 by decide +kernel)).symm
  have h13 : (s.toList == [114, 117, 110, 115]) = false := by rw [← show (⟨#[114, 117, 110, 115]⟩ : ByteArray).toList = [114, 117, 110, 115] by decide +kernel]; exact (Lib.bytes_beq_false_iff s ⟨#[114, 117, 110, 115]⟩).2 fun e => hs 13 (by decide) (e.trans (show (⟨#[114, 117, 110, 115]⟩ : ByteArray) = nm 13 by decide +kernel)).symm
  have h14 : (s.toList == [99, 111, 112, 105, 101, 115]) = false := by rw [← show (⟨#[99, 111, 112, 105, 101, 115]⟩ : ByteArray).toList = [99, 111, 112, 105, 101, 115] by decide +kernel]; exact (Lib.bytes_beq_false_iff s ⟨#[99, 111, 112, 105, 101, 115]⟩).2 fun e => hs 14 (by decide) (e.trans (show (⟨#[99, 111, 112, 105, 101, 115]⟩ : ByteArray) = nm 14 by decide +kernel)).symm
  have h15 : (s.toList == [114, 111, 108, 101, 115]) = false := by rw [← show (⟨#[114, 111, 108, 101, 115]⟩ : ByteArray).toList = [114, 111, 108, 101, 115] by decide +kernel]; exact (Lib.bytes_beq_false_iff s ⟨#[114, 111, 108, 101, 115]⟩).2 fun e => hs 15 (by decide) (e.trans (show (⟨#[114, 111, 108, 101, 115]⟩ : ByteArray) = nm 15 by decide +kernel)).symm
  have h16 : (s.toList == [109, 101]) = false := by rw [← show (⟨#[109, 101]⟩ : ByteArray).toList = [109, 101] by decide +kernel]; exact (Lib.bytes_beq_false_iff s ⟨#[109, 101]⟩).2 fun e => hs 16 (by decide) (e.trans (show (⟨#[109, 101]⟩ : ByteArray) = nm 16 by decide +kernel)).symm
  have h17 : (s.toList == [116, 101]) = false := by rw [← show (⟨#[116, 101]⟩ : ByteArray).toList = [116, 101] by decide +kernel]; exact (Lib.bytes_beq_false_iff s ⟨#[116, 101]⟩).2 fun e => hs 17 (by decide) (e.trans (show (⟨#[116, 101]⟩ : ByteArray) = nm 17 by decide +kernel)).symm
  have h18 : (s.toList == [98, 97, 121]) = false := by rw [← show (⟨#[98, 97, 121]⟩ : ByteArray).toList = [98, 97, 121] by decide +kernel]; exact (Lib.bytes_beq_false_iff s ⟨#[98, 97, 121]⟩).2 fun e => hs 18 (by decide) (e.trans (show (⟨#[98, 97, 121]⟩ : ByteArray) = nm 18 by decide +kernel)).symm
  clear hs
  go_enter Tryz.func74, Tryz.ntmps74
  go_wp2
  go_ret
  exact ⟨rfl, rfl⟩
theorem field_nm (g : Nat) (i : Nat) (hi : i < 19) (w : World) : Calls Tryz.prog 74 #[.pointer (some ⟨g, 0, none⟩), .string (nm i)] w fun e w' => e = .returned (.pointer (some ⟨g, 1 + i, none⟩)) ∧ w = w' := by
  match i, hi with
  | 0, _ => exact field_0 g w
  | 1, _ => exact field_1 g w
  | 2, _ => exact field_2 g w
  | 3, _ => exact field_3 g w
  | 4, _ => exact field_4 g w
  | 5, _ => exact field_5 g w
  | 6, _ => exact field_6 g w
  | 7, _ => exact field_7 g w
  | 8, _ => exact field_8 g w
  | 9, _ => exact field_9 g w
  | 10, _ => exact field_10 g w
  | 11, _ => exact field_11 g w
  | 12, _ => exact field_12 g w
  | 13, _ => exact field_13 g w
  | 14, _ => exact field_14 g w
  | 15, _ => exact field_15 g w
  | 16, _ => exact field_16 g w
  | 17, _ => exact field_17 g w
  | 18, _ => exact field_18 g w
  | n + 19, h => omega
theorem field_any (g : Nat) (s : ByteArray) (w : World) : Calls Tryz.prog 74 #[.pointer (some ⟨g, 0, none⟩), .string s] w fun e w' => e = .returned (.pointer (at0 g (place s))) ∧ w = w' := by
  cases h : place s with
  | some i =>
    obtain ⟨h1, h2⟩ := place_lt 19 i h
    subst h2
    exact field_nm g i h1 w
  | none => exact field_no g s (place_not 19 h) w
end Cmd
end Go.Proofs.YtlhalhilnkneeaaGreatDoor
end
