/- Texts put together: AskP. -/
import Derived.Test.YtlhalhilnkneeaaGreatDoorM28
set_option linter.all false
section
set_option maxRecDepth 100000
namespace Go.Proofs.YtlhalhilnkneeaaGreatDoor
open Go.RowKit Go.Great Go.Sort
namespace Asm
open Pen (bs)
open In (strVals Strs)
open Frm (rows put)
open Rec (below2 below_al below_dN Stk Stks stkVals)
open Cmd (Gives Snum CmdIn fi fn nm names place chkV Cok Lies Stand Eqv zeroC kindOf nameOf cmdB putV Clear takeV GivesT size_val val_get)
def cc : CmdIn := bareK 25
theorem goodC : Good cc := ⟨(bare_ok (by decide)).1, (bare_ok (by decide)).2, by decide +kernel⟩
theorem lineC : lineT cc = [99, 108, 111, 99, 107] := by
  have h1 : fi cc.kind = [0] := by decide +kernel
  have h2 : fieldT cc 0 = [] := by
    unfold fieldT
    exact if_pos rfl
  have h3 : fieldsT cc [0] = [] := by
    unfold fieldsT
    rw [List.flatMap_cons, List.flatMap_nil, h2]
    rfl
  have h4 : (nameOf cc.kind).data.toList = [99, 108, 111, 99, 107] := by decide +kernel
  unfold lineT lineW
  rw [h1, h3, h4]
  rfl
def CL (n : Nat) : List CmdIn := List.replicate n cc
def CT (n : Nat) : List UInt8 := textT (CL n)
theorem CL_len (n : Nat) : (CL n).length = n := List.length_replicate
theorem CL_good (n : Nat) : ∀ c ∈ CL n, Good c := fun c hc => by rw [List.eq_of_mem_replicate hc]; exact goodC
theorem CL_okl (n : Nat) : Okl (CL n) := fun c hc => ⟨(CL_good n c hc).cok, (CL_good n c hc).clear⟩
theorem CL_get (n i : Nat) (h : i < n) : (CL n).getD i zeroC = cc := by
  unfold CL
  rw [List.getD_eq_getElem?_getD, List.getElem?_replicate, if_pos h]
  rfl
theorem textT_append (l m : List CmdIn) : textT (l ++ m) = textT l ++ textT m := by
  unfold textT
  rw [List.flatMap_append]
theorem CT_add (a b : Nat) : CT (a + b) = CT a ++ CT b := by
  unfold CT CL
  rw [← textT_append, List.replicate_append_replicate]
theorem CT_one : CT 1 = [99, 108, 111, 99, 107, 10] := by
  show lineT cc ++ [10] ++ [] = _
  rw [lineC]
  rfl
theorem CT_len : ∀ n, (CT n).length = 6 * n
  | 0 => rfl
  | n + 1 => by
    rw [CT_add, List.length_append, CT_len n, CT_one]
    show 6 * n + 6 = _
    omega
theorem packT_append (l m : List CmdIn) : packT (l ++ m) = packT l ++ packT m := by
  unfold packT
  rw [List.map_append, Frm.cats_append]
theorem CP_len : ∀ n, (packT (CL n)).length = 10 * n
  | 0 => rfl
  | n + 1 => by
    have e : CL (n + 1) = CL n ++ CL 1 := by unfold CL; rw [List.replicate_append_replicate]
    have h1 : (packT (CL 1)).length = 10 := by decide +kernel
    rw [e, packT_append, List.length_append, CP_len n, h1]
    omega
/-- One line too many. -/
theorem script_full : ∀ (l : List CmdIn), (∀ c ∈ l, Good c) → ∀ (c : CmdIn), Good c → ∀ (k : Nat) (out : List CmdIn) (rest : List (List UInt8)), out.length + l.length = 4096 → scriptTo k out (l.map lineT ++ lineT c :: rest) = ([], ((k + l.length : Nat) : Int) + 1, 4)
  | [], _, c, hc, k, out, rest, hn => by
    obtain ⟨c', e1, e2⟩ := parse_line c hc.cok hc.clear hc.chk
    have hn' : out.length + 0 = 4096 := hn
    rw [List.map_nil, List.nil_append, scriptTo, line_skip c (good_kind hc), if_neg (by decide), e1]
    dsimp only
    rw [if_pos (by omega)]
    rfl
  | d :: l, h, c, hc, k, out, rest, hn => by
    have hd := h d (List.mem_cons_self ..)
    obtain ⟨d', e1, e2⟩ := parse_line d hd.cok hd.clear hd.chk
    have hn' : out.length + (l.length + 1) = 4096 := hn
    rw [List.map_cons, List.cons_append, scriptTo, line_skip d (good_kind hd), if_neg (by decide), e1]
    dsimp only
    rw [if_neg (by omega), script_full l (fun e he => h e (List.mem_cons_of_mem _ he)) c hc (k + 1) (out ++ [d']) rest (by rw [List.length_append]; show out.length + 1 + l.length = _; omega)]
    rw [List.length_cons, show k + 1 + l.length = k + (l.length + 1) by omega]
theorem script_more : scriptV (CT 4097) = ([], 4097, 4) := by
  have hl : (CT 4097).length = 6 * 4097 := CT_len 4097
  have hs : splitL 10 (CT 4097) = (CL 4096).map lineT ++ lineT cc :: [[]] := by
    have h1 := split_text (CL 4097) fun c hc => good_kind (CL_good _ c hc)
    have e : CL 4097 = CL 4096 ++ [cc] := by
      show List.replicate (4096 + 1) cc = List.replicate 4096 cc ++ List.replicate 1 cc
      rw [List.replicate_append_replicate]
    unfold CT
    rw [h1, e, List.map_append, List.append_assoc]
    rfl
  unfold scriptV
  rw [if_neg (by omega), hs, script_full (CL 4096) (CL_good _) cc goodC 0 [] [[]] (by rw [CL_len]; rfl), CL_len]
  rfl
theorem script_most : ∃ m, scriptV (CT 4096) = (m, 0, 0) ∧ EqvL m (CL 4096) := by
  have hl : (textT (CL 4096)).length = 6 * 4096 := CT_len 4096
  exact script_text (CL 4096) (CL_good _) (by rw [CL_len]; exact Nat.le_refl _) (by omega)
theorem text_most : textV (CL 4096) = (CT 4096, 0) ∧ packV (CL 4096) = (packT (CL 4096), 0) := by
  have hb : bad (CL 4096) = false := bad_of fun c hc => (CL_good _ c hc).chk
  have hl : ¬ 4096 < (CL 4096).length := by rw [CL_len]; exact Nat.lt_irrefl _
  unfold textV packV
  rw [if_neg hl, if_neg hl, hb]
  exact ⟨rfl, rfl⟩
theorem text_more : textV (CL 4097) = ([], 1) ∧ packV (CL 4097) = ([], 1) := by
  have hl : 4096 < (CL 4097).length := by rw [CL_len]; exact Nat.lt_succ_self _
  unfold textV packV
  rw [if_pos hl, if_pos hl]
  exact ⟨rfl, rfl⟩
/-- A row of commands is made. -/
theorem make_cmds {ops : Array Oper} {rest : List Oper} {o : Oper} {a : Act} {w : World} {Q : Exit → Act → World → Prop} (hg : o.guard = none) (l c : Operand) (hop : o.op = Op.makeSlice 23 l c) (n : Nat) (hl : a.eval l = .int .i64 (n : Int)) (hc : a.eval c = .int .i64 (n : Int)) (hn : n ≤ 1000000)
    (hK : wpList Tryz.prog ops Q rest (a.put o.dst (.slice (some ⟨w.heap.size, 0, none⟩) n n)) (w.alloc (.cells (madeCells zeroC.val (n * 22)) 41))) : wpList Tryz.prog ops Q (o :: rest) a w := by
  refine wpList_plain hg fun K hK' => ?_
  obtain ⟨i0, hi, hz0, hz1, hz2⟩ := info_parts cinfo
  have hrun := run_make (P := Tryz.prog) w 23 41 i0 _ Tryz.underlying23 hi hz0 .i64 .i64 (n : Int) (n : Int) (by omega) (Int.le_refl _) (by rw [hz2]; omega) (by omega)
  rw [Int.toNat_natCast, hz1] at hrun
  have hrun2 : (Instr.makeSlice 23 (.int .i64 (n : Int)) (.int .i64 (n : Int))).run Tryz.prog w = .ok (.slice (some ⟨w.heap.size, 0, none⟩) n n) (w.alloc (.cells (madeCells zeroC.val (n * 22)) 41)) := hrun
  unfold Oper.wp
  simp [execOp, hop, hl, hc, hrun2, Result.andThen]
  exact hK' _ _ hK
/-- A row that is being filled. -/
structure RB (w W : World) (g n k : Nat) : Prop where
  bel : Below w.heap.size w W
  rng : ∀ i, i < n → W.rangeAt g (i * 22) (if i < k then cc.val.toList else zeroC.val.toList)
  frz : ∀ j, W.frozen? ⟨g, j, none⟩ = false
  num : w.heap.size ≤ g ∧ g < W.heap.size
theorem below_cells {w : World} {B g : Nat} (hg : B ≤ g) : ∀ (vs : List Value) (o : Nat) (W : World), Below B w W → Below B w (W.setCells g o vs)
  | [], _, _, h => h
  | v :: vs, o, W, h => below_cells hg vs (o + 1) (W.setCell ⟨g, o, none⟩ v) (show Below B w (W.setCell ⟨g, o, none⟩ v) from h.setCell (by exact hg) _)
theorem size_cells {g : Nat} : ∀ (vs : List Value) (o : Nat) (W : World), (W.setCells g o vs).heap.size = W.heap.size
  | [], _, _ => rfl
  | v :: vs, o, W => by
    rw [World.setCells, size_cells vs (o + 1)]
    simp
theorem rb_new (w : World) (n : Nat) : RB w (w.alloc (.cells (madeCells zeroC.val (n * 22)) 41)) w.heap.size n 0 := by
  have hh : (w.alloc (.cells (madeCells zeroC.val (n * 22)) 41)).heap[w.heap.size]? = some (.cells (madeCells zeroC.val (n * 22)) 41 (0, 0)) := heap_alloc_new w _
  refine ⟨below_al (Below.refl _ _) _, fun i hi j v hv => ?_, fun j => ?_, Nat.le_refl _, by simp⟩
  · rw [if_neg (Nat.not_lt_zero i)] at hv
    have hj : j < 22 := by
      rcases Nat.lt_or_ge j 22 with h | h
      · exact h
      · rw [List.getElem?_eq_none (by rw [val_len]; exact h)] at hv; cases hv
    rw [cell_of_row _ _ _ _ _ _ hh]
    have hk : i * 22 + j < n * 22 := by omega
    have hm : (i * 22 + j) % 22 = j := by omega
    have hs : zeroC.val.size = 22 := rfl
    rw [Array.getElem?_toList] at hv
    simp [madeCells, hk, hs, hm, getElem!_def, hv]
  · exact World.rowIs.frozen (World.rowIs_alloc w (madeCells zeroC.val (n * 22)) 41 (fun i => (madeCells zeroC.val (n * 22))[i]?.getD undef) fun i hi => by rw [Array.getElem?_eq_getElem hi]; rfl) j
theorem RB.there {w W : World} {g n k : Nat} (h : RB w W g n k) (hk : k < n) : W.there g (k * 22) cc.val.size := fun j hj => by
  refine ⟨?_, h.frz _⟩
  have := (h.rng k hk).isSome j (by rw [if_neg (Nat.lt_irrefl k)]; exact hj)
  exact this
theorem RB.step {w W : World} {g n k : Nat} (h : RB w W g n k) (hk : k < n) : RB w (W.setCells g (k * 22) cc.val.toList) g n (k + 1) := by
  refine ⟨below_cells h.num.1 _ _ _ h.bel, fun i hi => ?_, fun j => by rw [World.frozen?_setCells]; exact h.frz j, h.num.1, by rw [size_cells]; exact h.num.2⟩
  by_cases e : i = k
  · subst e
    rw [if_pos (Nat.lt_succ_self i)]
    exact World.rangeAt_setCells_same W g (i * 22) cc.val.toList (h.there hk)
  · have e2 : (if i < k + 1 then cc.val.toList else zeroC.val.toList) = (if i < k then cc.val.toList else zeroC.val.toList) := by
      by_cases h1 : i < k
      · rw [if_pos h1, if_pos (by omega)]
      · rw [if_neg h1, if_neg (by omega)]
    rw [e2]
    refine World.rangeAt_setCells_apart (h.rng i hi) g (k * 22) cc.val.toList (Or.inr ?_)
    have hl : (if i < k then cc.val.toList else zeroC.val.toList).length = 22 := by split <;> rfl
    rw [hl, val_len]
    omega
theorem RB.cmds {w W : World} {g n : Nat} (h : RB w W g n n) : Cmds W (some ⟨g, 0, none⟩) (CL n) := fun i hi => by
  rw [CL_len] at hi
  have hr := h.rng i hi
  rw [if_pos hi] at hr
  refine ⟨g, 0, rfl, h.num.2, ?_, ?_⟩
  · rw [CL_get n i hi, Nat.zero_add]; exact hr
  · rw [CL_get n i hi]; exact ⟨fun j hj => absurd hj (Nat.not_lt_zero j), fun j hj => absurd hj (Nat.not_lt_zero j)⟩
end Asm
end Go.Proofs.YtlhalhilnkneeaaGreatDoor
end
