/- A command: its cells; reading and changing one number. -/
import Derived.Test.YtbjlkeneeodghaaDoorCmdG
import Derived.Test.YtbjlkeneeodghaaDoorCmdF
set_option linter.unusedSimpArgs false
set_option linter.unusedVariables false
namespace Go.Proofs.YtbjlkeneeodghaaDoor
open Go.RowKit Go.Great
namespace Cmd
open Pen (bs)
open In (Strs)
open Rec (below2 below_al below_dN Stk Stks stkVals)
/-- A command. -/
structure CmdIn where
  kind : Int
  num : Nat → Int
  gives : List Stk
  ga : Option Addr
  gc : Nat
  wants : List Stk
  wa : Option Addr
  wc : Nat
namespace CmdIn
/-- Its cells. -/
def val (c : CmdIn) : Array Value := #[.int .i64 c.kind, .int .i64 (c.num 0), .int .i64 (c.num 1), .int .i64 (c.num 2), .int .i64 (c.num 3), .int .i64 (c.num 4), .int .i64 (c.num 5), .int .i64 (c.num 6), .int .i64 (c.num 7), .int .i64 (c.num 8), .int .i64 (c.num 9), .int .i64 (c.num 10), .int .i64 (c.num 11), .int .i64 (c.num 12), .int .i64 (c.num 13), .int .i64 (c.num 14), .int .i64 (c.num 15), .int .i64 (c.num 16), .int .i64 (c.num 17), .int .i64 (c.num 18), .slice c.ga c.gives.length c.gc, .slice c.wa c.wants.length c.wc]
def cell (c : CmdIn) (i : Nat) : Value := if i = 0 then .int .i64 c.kind else if i = 20 then .slice c.ga c.gives.length c.gc else if i = 21 then .slice c.wa c.wants.length c.wc else .int .i64 (c.num (i - 1))
def set (c : CmdIn) (k : Nat) (n : Int) : CmdIn := { c with num := fun i => if i = k then n else c.num i }
end CmdIn
theorem val_get (c : CmdIn) (i : Nat) (hi : i < 22) : c.val[i]? = some (c.cell i) := by
  match i, hi with
  | 0, _ => rfl
  | 1, _ => rfl
  | 2, _ => rfl
  | 3, _ => rfl
  | 4, _ => rfl
  | 5, _ => rfl
  | 6, _ => rfl
  | 7, _ => rfl
  | 8, _ => rfl
  | 9, _ => rfl
  | 10, _ => rfl
  | 11, _ => rfl
  | 12, _ => rfl
  | 13, _ => rfl
  | 14, _ => rfl
  | 15, _ => rfl
  | 16, _ => rfl
  | 17, _ => rfl
  | 18, _ => rfl
  | 19, _ => rfl
  | 20, _ => rfl
  | 21, _ => rfl
  | n + 22, h => omega
/-- A command that stands in a block. -/
def Stand (w : World) (g : Nat) (c : CmdIn) : Prop := w.rowIs g 24 22 c.cell
theorem stand_new {w : World} {g : Nat} (hg : w.heap.size = g) (c : CmdIn) : Stand (w.alloc (.cells c.val 24)) g c := by
  subst hg
  exact World.rowIs_alloc w c.val 24 c.cell fun i hi => val_get c i hi
theorem Stand.heap {w : World} {g : Nat} {c : CmdIn} (h : Stand w g c) : w.heap[g]? = some (.cells c.val 24 (0, 0)) := by
  obtain ⟨cs, hs, hg, hc⟩ := h
  rw [hs]
  have e : cs = c.val := by
    apply Array.ext_getElem?
    intro i
    by_cases hi : i < 22
    · rw [hc i hi, val_get c i hi]
    · rw [Array.getElem?_eq_none (by omega), Array.getElem?_eq_none (by show 22 ≤ i; omega)]
  rw [e]
theorem Stand.below {w w' : World} {g : Nat} {c : CmdIn} (h : Stand w g c) (hb : Below w.heap.size w w') : Stand w' g c := World.rowIs.of_block h (hb.block g (World.rowIs.lt h))
theorem Stand.num {w : World} {g : Nat} {c : CmdIn} (h : Stand w g c) (i : Nat) (hi : i < 19) : w.cell? ⟨g, 1 + i, none⟩ = some (.int .i64 (c.num i)) := by
  rw [World.rowIs.cell h (i := 1 + i) (by omega)]
  unfold CmdIn.cell
  rw [if_neg (by omega), if_neg (by omega), if_neg (by omega), Nat.add_sub_cancel_left]
theorem Stand.set {w : World} {g : Nat} {c : CmdIn} (h : Stand w g c) (k : Nat) (hk : k < 19) (n : Int) : Stand (w.setCell ⟨g, 1 + k, none⟩ (.int .i64 n)) g (c.set k n) := by
  refine World.rowIs.congr (World.rowIs.set h (1 + k) _) fun i hi => ?_
  unfold CmdIn.cell CmdIn.set
  simp only
  by_cases h0 : i = 1 + k
  · rw [if_pos h0, if_neg (by omega), if_neg (by omega), if_neg (by omega), if_pos (by omega)]
  · rw [if_neg h0]
    by_cases h1 : i = 0
    · rw [if_pos h1, if_pos h1]
    · rw [if_neg h1, if_neg h1]
      by_cases h2 : i = 20
      · rw [if_pos h2, if_pos h2]
      · rw [if_neg h2, if_neg h2]
        by_cases h3 : i = 21
        · rw [if_pos h3, if_pos h3]
        · rw [if_neg h3, if_neg h3, if_neg (by omega)]
theorem size_val (c : CmdIn) : (Tryd.prog.info? 24).map (·.size) = some c.val.size := by kernel_rfl
/-- A command is loaded whole. -/
theorem load_cmd {ops : Array Oper} {rest : List Oper} {o : Oper} {a : Act} {w : World} {Q : Exit → Act → World → Prop} (hgd : o.guard = none) (x : Operand) (ho : o.op = .load 24 x)
    (g : Nat) (hx : a.eval x = .pointer (some ⟨g, 0, none⟩)) (c : CmdIn) (hs : Stand w g c) (h : wpList Tryd.prog ops Q rest (a.put o.dst (.agg c.val)) w) : wpList Tryd.prog ops Q (o :: rest) a w :=
  wpList_load_row hgd 24 x ho g hx 24 c.val (0, 0) _ hs.heap Tryd.underlying24 rfl (size_val c) h
/-- Numbers in a block of their own. -/
def NumsAt (w : World) (g : Nat) (f : Nat → Int) : Prop := w.rowIs g 3 19 (fun i => .int .i64 (f i))
/-- A command's numbers are given back. -/
def GivesN (f : Nat → Int) (w : World) (e : Ending) (w' : World) : Prop := ∃ g, e = .returned (.slice (some ⟨g, 0, none⟩) 19 19) ∧ w.heap.size ≤ g ∧ Hid (NumsAt w' g f) ∧ Hid (Below w.heap.size w w')
theorem NumsAt.cell {w : World} {g : Nat} {f : Nat → Int} (h : NumsAt w g f) (i : Nat) (hi : i < 19) : w.cell? ⟨g, i, none⟩ = some (.int .i64 (f i)) := World.rowIs.cell h hi
theorem NumsAt.below {w w' : World} {g : Nat} {f : Nat → Int} (h : NumsAt w g f) (hb : Below w.heap.size w w') : NumsAt w' g f := World.rowIs.of_block h (hb.block g (World.rowIs.lt h))
theorem nums_new {w : World} {g : Nat} (hg : w.heap.size = g) (f : Nat → Int) (cs : Array Value) (hs : cs.size = 19) (hc : ∀ i, i < 19 → cs[i]? = some (.int .i64 (f i))) : NumsAt (w.alloc (.cells cs 3)) g f := by
  subst hg
  have := World.rowIs_alloc w cs 3 (fun i => .int .i64 (f i)) (by rw [hs]; exact hc)
  rw [hs] at this
  exact this
set_option maxRecDepth 100000 in
theorem few_any (c : CmdIn) (w : World) : Calls Tryd.prog 7 #[.agg c.val] w fun e w' => e = .returned (.bool (decide ((c.gives.length : Int) ≤ 12) && decide ((c.wants.length : Int) ≤ 12))) ∧ Below w.heap.size w w' := by
  unfold CmdIn.val
  generalize c.gives.length = n1
  generalize c.wants.length = n2
  by_cases h1 : (n1 : Int) ≤ 12
  · have d1 : decide ((n1 : Int) ≤ 12) = true := decide_eq_true h1
    go_enter Tryd.func7, Tryd.ntmps7
    go_wp2
    all_goals go_ret
    all_goals exact ⟨by simp [h1], below_al (Below.refl _ _) _⟩
  · have d1 : decide ((n1 : Int) ≤ 12) = false := decide_eq_false h1
    go_enter Tryd.func7, Tryd.ntmps7
    go_wp2
    all_goals go_ret
    all_goals exact ⟨by simp [h1], below_al (Below.refl _ _) _⟩
set_option maxRecDepth 100000 in
set_option maxHeartbeats 2000000 in
theorem all_any (c : CmdIn) (w : World) : Calls Tryd.prog 41 #[.agg c.val] w (GivesN c.num w) := by
  unfold CmdIn.val
  go_enter Tryd.func41, Tryd.ntmps41
  go_wp2
  go_ret
  refine ⟨_, rfl, ?_, nums_new ?_ c.num _ rfl fun i hi => ?_, below_al (below_al (Below.refl _ _) _) _⟩
  · simp
  · simp
  · match i, hi with
    | 0, _ => rfl
    | 1, _ => rfl
    | 2, _ => rfl
    | 3, _ => rfl
    | 4, _ => rfl
    | 5, _ => rfl
    | 6, _ => rfl
    | 7, _ => rfl
    | 8, _ => rfl
    | 9, _ => rfl
    | 10, _ => rfl
    | 11, _ => rfl
    | 12, _ => rfl
    | 13, _ => rfl
    | 14, _ => rfl
    | 15, _ => rfl
    | 16, _ => rfl
    | 17, _ => rfl
    | 18, _ => rfl
    | n + 19, h => omega
end Cmd
end Go.Proofs.YtbjlkeneeodghaaDoor
