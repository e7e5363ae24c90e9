/- A command with another number: the document's answer. -/
import Derived.Test.YtbjlkeneeodghaaDoorCmdT
set_option linter.unusedSimpArgs false
set_option linter.unusedVariables false
namespace Go.Proofs.YtbjlkeneeodghaaDoor
open Go.RowKit Go.Great
namespace Cmd
open Pen (bs)
open In (Strs)
open Rec (below2 below_al below_dN Stk Stks stkVals)
theorem Stks.setRow {w : World} {a : Option Addr} {l : List Stk} (h : Stks w a l) {g : Nat} (hp : ∀ x, a = some x → x.block ≠ g) (cs : Array Value) : Stks (w.setRow g cs) a l := fun i hi => by
  obtain ⟨b, off, e, hlt, hc, hd⟩ := h i hi
  have hne : b ≠ g := hp _ e
  have hk : (w.setRow g cs).heap[b]? = w.heap[b]? := by simp only [World.setRow, Array.getElem?_modify]; rw [if_neg (by omega)]
  refine ⟨b, off, e, by simpa [World.setRow] using hlt, ?_, ?_⟩
  · unfold World.cell? at hc ⊢; rw [hk]; exact hc
  · unfold World.cell? at hd ⊢; rw [hk]; exact hd
/-- The stacks of a command lie there. -/
structure Lies (w : World) (c : CmdIn) : Prop where
  g : Stks w c.ga c.gives
  w : Stks w c.wa c.wants
theorem Stks.setCell {w : World} {a : Option Addr} {l : List Stk} (h : Stks w a l) {p : Addr} (hp : ∀ x, a = some x → x.block ≠ p.block) (u : Value) : Stks (w.setCell p u) a l := fun i hi => by
  obtain ⟨b, off, e, hlt, hc, hd⟩ := h i hi
  have hne : b ≠ p.block := hp _ e
  have hk := Below.heap_setCell w p u b hne
  refine ⟨b, off, e, by simpa using hlt, ?_, ?_⟩
  · unfold World.cell? at hc ⊢; rw [hk]; exact hc
  · unfold World.cell? at hd ⊢; rw [hk]; exact hd
theorem Lies.below {w w' : World} {c : CmdIn} (h : Lies w c) (hb : Below w.heap.size w w') : Lies w' c := ⟨h.g.below hb, h.w.below hb⟩
/-- Commands that say the same. -/
structure Eqv (a b : CmdIn) : Prop where
  kind : a.kind = b.kind
  num : a.num = b.num
  gives : a.gives = b.gives
  wants : a.wants = b.wants
theorem Eqv.refl (a : CmdIn) : Eqv a a := ⟨rfl, rfl, rfl, rfl⟩
theorem Lies.zero (w : World) : Lies w zeroC := ⟨fun i hi => by simp [zeroC] at hi, fun i hi => by simp [zeroC] at hi⟩
/-- A command and a yes or no are given back. -/
def GivesB (t : CmdIn) (b : Bool) (w : World) (e : Ending) (w' : World) : Prop := ∃ c', e = .returned (.tuple #[.agg c'.val, .bool b]) ∧ Hid (Eqv c' t) ∧ Hid (Lies w' c') ∧ Hid (Below w.heap.size w w')
/-- The command with another number. -/
def setV (c : CmdIn) (s : ByteArray) (n : Int) : CmdIn := match place s with
  | some i => c.set i n
  | none => zeroC
theorem NumsAt.set {w : World} {g : Nat} {f : Nat → Int} (h : NumsAt w g f) (k : Nat) (n : Int) : NumsAt (w.setCell ⟨g, k, none⟩ (.int .i64 n)) g (fun i => if i = k then n else f i) := by
  refine World.rowIs.congr (World.rowIs.set h k _) fun i hi => ?_
  by_cases h0 : i = k
  · rw [if_pos h0]; simp only [if_pos h0]
  · rw [if_neg h0]; simp only [if_neg h0]
theorem val_num (c : CmdIn) (i : Nat) (hi : i < 19) : c.val[1 + i]? = some (.int .i64 (c.num i)) := by
  rw [val_get c (1 + i) (by omega)]
  unfold CmdIn.cell
  rw [if_neg (by omega), if_neg (by omega), if_neg (by omega), Nat.add_sub_cancel_left]
theorem set_with (c : CmdIn) (k : Nat) (n : Int) : c.with (fun i => if i = k then n else c.num i) = c.set k n := rfl
/-- A command is stored whole. -/
theorem store_cmd {ops : Array Oper} {rest : List Oper} {o : Oper} {a : Act} {w : World} {Q : Exit → Act → World → Prop} (hgd : o.guard = none) (x y : Operand) (ho : o.op = .store 24 x y) (hd : o.dst = none)
    (g : Nat) (c c0 : CmdIn) (hx : a.eval x = .pointer (some ⟨g, 0, none⟩)) (hy : a.eval y = .agg c.val) (hg : w.heap[g]? = some (.cells c0.val 24 (0, 0)))
    (h : wpList Tryd.prog ops Q rest a (w.setRow g c.val)) : wpList Tryd.prog ops Q (o :: rest) a w :=
  wpList_store_rowTo hgd 24 x y ho hd g c.val hx hy 24 c0.val hg (size_val c) rfl (by simp [CmdIn.val, Value.oneCell']) h
theorem setRow_cmd {w : World} {g : Nat} (c : CmdIn) {c0 : CmdIn} (hg : w.heap[g]? = some (.cells c0.val 24 (0, 0))) : (w.setRow g c.val).heap[g]? = some (.cells c.val 24 (0, 0)) := setRow_heap w g c0.val c.val _ _ hg
/-- What is returned: a command and one more. -/
theorem ret_cmd {fn : Func} {p q : Tmp} (h : fn.results = #[.cell p 24, ResultVar.tmp q]) (tmps : Array Value) (w : World) (g : Nat) (c : CmdIn) (b : Value)
    (hp : tmps.getD p undef = .pointer (some ⟨g, 0, none⟩)) (hq : tmps.getD q undef = b) (hg : w.heap[g]? = some (.cells c.val 24 (0, 0))) :
    (results fn tmps).run Tryd.prog w = .ok (.tuple #[.agg c.val, b]) w := by
  have hp' : tmps[p]?.getD undef = .pointer (some ⟨g, 0, none⟩) := by simpa using hp
  have hq' : tmps[q]?.getD undef = b := by simpa using hq
  rw [results_cell_tmp h]
  simp [hp', hq', asAddr, run_loadVar_row _ _ _ _ c.val _ _ hg Tryd.underlying24 rfl (size_val c)]
theorem set_keeps {w w1 w2 : World} {g g2 i : Nat} {o : Obj} (n : Int) (hz : w1.heap[g]? = some o) (hg2 : w1.heap.size ≤ g2) (hb : Below w1.heap.size w1 w2) (h12 : Below w.heap.size w w2) (hw : w.heap.size ≤ w1.heap.size) :
    (w2.setCell ⟨g2, i, none⟩ (.int .i64 n)).heap[g]? = some o ∧ Below w.heap.size w (w2.setCell ⟨g2, i, none⟩ (.int .i64 n)) := by
  have hgw := (Array.getElem?_eq_some_iff.1 hz).1
  exact ⟨(Below.heap_setCell _ _ _ _ (by show g ≠ g2; omega)).trans ((hb.block _ hgw).trans hz), h12.setCell (by show w.heap.size ≤ g2; omega) _⟩
set_option maxRecDepth 100000 in
set_option maxHeartbeats 4000000 in
theorem refSet_any (c : CmdIn) (s : ByteArray) (n : Int) (w : World) (hl : Lies w c) : Calls Tryd.prog 19 #[.agg c.val, .string s, .int .i64 n] w (GivesB (setV c s n) (place s).isSome w) := by
  have HL := Lib.hid hl
  clear hl
  have HST := Lib.hid (stand_new (w := w) rfl c)
  have CP : Hid (∀ W, Calls Tryd.prog 47 #[.string s] W fun e w' => e = .returned (.int .i64 (plI (place s))) ∧ Below W.heap.size W w') := fun W => place_any s W
  have CA : Hid (∀ W, Calls Tryd.prog 41 #[.agg c.val] W (GivesN c.num W)) := fun W => all_any c W
  have CO : Hid (∀ g f W, NumsAt W g f → Calls Tryd.prog 49 #[.agg c.val, .slice (some ⟨g, 0, none⟩) 19 19] W fun e w' => e = .returned (.agg (c.with f).val) ∧ Below W.heap.size W w') := fun g f W h => of_any c g f W h
  cases hp : place s with
  | some i =>
    obtain ⟨hi, -⟩ := place_lt 19 i hp
    have HV : Hid (setV c s n = c.set i n) := by show _ = _; unfold setV; rw [hp]
    have HP : Hid (plI (some i) = (i : Int)) := rfl
    rw [HV.out]
    rw [hp, HP.out] at CP
    have hi1 : (i : Int) < 19 := by omega
    have hi0 : (0 : Int) ≤ (i : Int) := by omega
    have n0 : ¬ (i : Int) < 0 := by omega
    clear hp HV
    go_enter Tryd.func19, Tryd.ntmps19
    go_wp2_with (first
      | (go_at_call 47; (with_reducible refine (CP.out _).mono ?_); rintro e w1 ⟨rfl, hb1⟩; have HB1 := Lib.hid hb1; clear hb1; have HS1 := Lib.hid ((HST.out.below (below_al (Below.refl _ _) _)).below HB1.out); have HZ1 : Hid (w1.heap[w.heap.size + 1]? = some (.cells zeroC.val 24 (0, 0))) := ((HB1.out.block (w.heap.size + 1) (by simp)).trans (heap_alloc2_new w _ _)))
      | (refine load_cmd rfl (.tmp 3) rfl w.heap.size rfl c HS1.out ?_)
      | (go_at_call 41; (with_reducible refine (CA.out _).mono ?_); rintro e w2 ⟨g2, rfl, hg2, HN2, HB2⟩; have cx := HN2.out.cell i hi; have fx : w2.frozen? ⟨g2, i, none⟩ = false := World.rowIs.frozen HN2.out i; have HB12 := Lib.hid (below2 (below_al (below_al (Below.refl w.heap.size w) _) _) (below2 HB1.out HB2.out)); have HS2 := Lib.hid (HS1.out.below HB2.out); have hgw : w.heap.size + 1 < w1.heap.size := (Array.getElem?_eq_some_iff.1 HZ1.out).1; have HS3 := Lib.hid (World.rowIs.setOther HS2.out (a := ⟨g2, i, none⟩) (by show w.heap.size ≠ g2; omega) (.int .i64 n)); have HN3 := Lib.hid (HN2.out.set i n); obtain ⟨hz3, hb3⟩ := set_keeps (i := i) n HZ1.out hg2 HB2.out HB12.out (by omega); have HZ3 := Lib.hid hz3; have HB3 := Lib.hid hb3; clear hz3 hb3)
      | (refine load_cmd rfl (.tmp 3) rfl w.heap.size rfl c HS3.out ?_)
      | (go_at_call 49; (with_reducible refine (CO.out _ _ _ HN3.out).mono ?_); rintro e w4 ⟨rfl, hb4⟩; have HZ4 := Lib.hid ((hb4.block _ (Array.getElem?_eq_some_iff.1 HZ3.out).1).trans HZ3.out); have HB4 := Lib.hid (below2 HB3.out hb4); clear hb4)
      | (refine store_cmd rfl (.tmp 6) (.tmp 23) rfl rfl (w.heap.size + 1) (c.set i n) zeroC rfl rfl HZ4.out ?_))
    try simp only [Exit.inBlock, Exit.then]
    refine bodyPost_ret (v := .tuple #[.agg (c.set i n).val, .bool true]) (ret_cmd rfl _ _ (w.heap.size + 1) (c.set i n) _ rfl rfl (setRow_cmd _ HZ4.out)) rfl ⟨c.set i n, rfl, Eqv.refl _, ?_, ?_⟩
    · exact Lies.below (c := c.set i n) ⟨HL.out.g, HL.out.w⟩ (below_setRow HB4.out _ (by omega) _)
    · exact below_setRow HB4.out _ (by omega) _
  | none =>
    have HV : Hid (setV c s n = zeroC) := by show _ = _; unfold setV; rw [hp]
    have HP : Hid (plI none = -1) := rfl
    rw [HV.out]
    rw [hp, HP.out] at CP
    clear hp HV
    go_enter Tryd.func19, Tryd.ntmps19
    go_wp2_with (first
      | (go_at_call 47; (with_reducible refine (CP.out _).mono ?_); rintro e w1 ⟨rfl, hb1⟩; have HB1 := Lib.hid hb1; clear hb1; have HZ1 : Hid (w1.heap[w.heap.size + 1]? = some (.cells zeroC.val 24 (0, 0))) := ((HB1.out.block (w.heap.size + 1) (by simp)).trans (heap_alloc2_new w _ _)))
      | (refine wpList_buildTo rfl 24 _ rfl (some 14) rfl zeroC.val (by as_aux_lemma => kernel_rfl) ?_)
      | (refine store_cmd rfl (.tmp 6) (.tmp 14) rfl rfl (w.heap.size + 1) zeroC zeroC rfl rfl HZ1.out ?_))
    try simp only [Exit.inBlock, Exit.then]
    have HB2 := Lib.hid (below2 (below_al (below_al (Below.refl w.heap.size w) _) _) HB1.out)
    refine bodyPost_ret (v := .tuple #[.agg zeroC.val, .bool false]) (ret_cmd rfl _ _ (w.heap.size + 1) zeroC _ rfl rfl (setRow_cmd _ HZ1.out)) rfl ⟨zeroC, rfl, Eqv.refl _, Lies.zero _, ?_⟩
    exact below_setRow HB2.out _ (by omega) _
end Cmd
end Go.Proofs.YtbjlkeneeodghaaDoor
