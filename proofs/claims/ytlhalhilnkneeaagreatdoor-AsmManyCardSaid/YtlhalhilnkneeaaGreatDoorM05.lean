/- Texts put together: CmdV, OrdU, CmdS, CmdT, CmdX, CmdY, CmdZ. -/
import Derived.Test.YtlhalhilnkneeaaGreatDoorM04
import Derived.Test.YtlhalhilnkneeaaGreatDoorChecked
import Derived.WalkKit
import Derived.Deep.RegionHeld3
import Derived.Lib.LazyBuf
import Derived.Lib.SliceRun
import Derived.StillTailTactics
set_option linter.all false
section
namespace Go.Proofs.YtlhalhilnkneeaaGreatDoor
open Go.RowKit Go.Great
namespace Cmd
open Pen (bs)
open In (Strs)
open Rec (below2 below_al below_dN Stk Stks stkVals)
/-- A command. -/
structure CmdIn where
  kind : Int
  num : Nat → Int
  gives : List Stk
  ga : Option Addr
  gc : Nat
  wants : List Stk
  wa : Option Addr
  wc : Nat
namespace CmdIn
/-- Its cells. -/
def val (c : CmdIn) : Array Value := #[.int .i64 c.kind, .int .i64 (c.num 0), .int .i64 (c.num 1), .int .i64 (c.num 2), .int .i64 (c.num 3), .int .i64 (c.num 4), .int .i64 (c.num 5), .int .i64 (c.num 6), .int .i64 (c.num 7), .int .i64 (c.num 8), .int .i64 (c.num 9), .int .i64 (c.num 10), .int .i64 (c.num 11), .int .i64 (c.num 12), .int .i64 (c.num 13), .int .i64 (c.num 14), .int .i64 (c.num 15), .int .i64 (c.num 16), .int .i64 (c.num 17), .int .i64 (c.num 18), .slice c.ga c.gives.length c.gc, .slice c.wa c.wants.length c.wc]
def cell (c : CmdIn) (i : Nat) : Value := if i = 0 then .int .i64 c.kind else if i = 20 then .slice c.ga c.gives.length c.gc else if i = 21 then .slice c.wa c.wants.length c.wc else .int .i64 (c.num (i - 1))
def set (c : CmdIn) (k : Nat) (n : Int) : CmdIn := { c with num := fun i => if i = k then n else c.num i }
end CmdIn
theorem val_get (c : CmdIn) (i : Nat) (hi : i < 22) : c.val[i]? = some (c.cell i) := by
  match i, hi with
  | 0, _ => rfl
  | 1, _ => rfl
  | 2, _ => rfl
  | 3, _ => rfl
  | 4, _ => rfl
  | 5, _ => rfl
  | 6, _ => rfl
  | 7, _ => rfl
  | 8, _ => rfl
  | 9, _ => rfl
  | 10, _ => rfl
  | 11, _ => rfl
  | 12, _ => rfl
  | 13, _ => rfl
  | 14, _ => rfl
  | 15, _ => rfl
  | 16, _ => rfl
  | 17, _ => rfl
  | 18, _ => rfl
  | 19, _ => rfl
  | 20, _ => rfl
  | 21, _ => rfl
  | n + 22, h => omega
/-- A command that stands in a block. -/
def Stand (w : World) (g : Nat) (c : CmdIn) : Prop := w.rowIs g 41 22 c.cell
theorem stand_new {w : World} {g : Nat} (hg : w.heap.size = g) (c : CmdIn) : Stand (w.alloc (.cells c.val 41)) g c := by
  subst hg
  exact World.rowIs_alloc w c.val 41 c.cell fun i hi => val_get c i hi
theorem Stand.heap {w : World} {g : Nat} {c : CmdIn} (h : Stand w g c) : w.heap[g]? = some (.cells c.val 41 (0, 0)) := by
  obtain ⟨cs, hs, hg, hc⟩ := h
  rw [hs]
  have e : cs = c.val := by
    apply Array.ext_getElem?
    intro i
    by_cases hi : i < 22
    · rw [hc i hi, val_get c i hi]
    · rw [Array.getElem?_eq_none (by omega), Array.getElem?_eq_none (by show 22 ≤ i; omega)]
  rw [e]
theorem Stand.below {w w' : World} {g : Nat} {c : CmdIn} (h : Stand w g c) (hb : Below w.heap.size w w') : Stand w' g c := World.rowIs.of_block h (hb.block g (World.rowIs.lt h))
theorem Stand.num {w : World} {g : Nat} {c : CmdIn} (h : Stand w g c) (i : Nat) (hi : i < 19) : w.cell? ⟨g, 1 + i, none⟩ = some (.int .i64 (c.num i)) := by
  rw [World.rowIs.cell h (i := 1 + i) (by omega)]
  unfold CmdIn.cell
  rw [if_neg (by omega), if_neg (by omega), if_neg (by omega), Nat.add_sub_cancel_left]
theorem Stand.set {w : World} {g : Nat} {c : CmdIn} (h : Stand w g c) (k : Nat) (hk : k < 19) (n : Int) : Stand (w.setCell ⟨g, 1 + k, none⟩ (.int .i64 n)) g (c.set k n) := by
  refine World.rowIs.congr (World.rowIs.set h (1 + k) _) fun i hi => ?_
  unfold CmdIn.cell CmdIn.set
  simp only
  by_cases h0 : i = 1 + k
  · rw [if_pos h0, if_neg (by omega), if_neg (by omega), if_neg (by omega), if_pos (by omega)]
  · rw [if_neg h0]
    by_cases h1 : i = 0
    · rw [if_pos h1, if_pos h1]
    · rw [if_neg h1, if_neg h1]
      by_cases h2 : i = 20
      · rw [if_pos h2, if_pos h2]
      · rw [if_neg h2, if_neg h2]
        by_cases h3 : i = 21
        · rw [if_pos h3, if_pos h3]
        · rw [if_neg h3, if_neg h3, if_neg (by omega)]
theorem size_val (c : CmdIn) : (Tryz.prog.info? 41).map (·.size) = some c.val.size := by kernel_rfl
/-- A command is loaded whole. -/
theorem load_cmd {ops : Array Oper} {rest : List Oper} {o : Oper} {a : Act} {w : World} {Q : Exit → Act → World → Prop} (hgd : o.guard = none) (x : Operand) (ho : o.op = .load 41 x)
    (g : Nat) (hx : a.eval x = .pointer (some ⟨g, 0, none⟩)) (c : CmdIn) (hs : Stand w g c) (h : wpList Tryz.prog ops Q rest (a.put o.dst (.agg c.val)) w) : wpList Tryz.prog ops Q (o :: rest) a w :=
  wpList_load_row hgd 41 x ho g hx 41 c.val (0, 0) _ hs.heap Tryz.underlying41 rfl (size_val c) h
/-- Numbers in a block of their own. -/
def NumsAt (w : World) (g : Nat) (f : Nat → Int) : Prop := w.rowIs g 3 19 (fun i => .int .i64 (f i))
/-- A command's numbers are given back. -/
def GivesN (f : Nat → Int) (w : World) (e : Ending) (w' : World) : Prop := ∃ g, e = .returned (.slice (some ⟨g, 0, none⟩) 19 19) ∧ w.heap.size ≤ g ∧ Hid (NumsAt w' g f) ∧ Hid (Below w.heap.size w w')
theorem NumsAt.cell {w : World} {g : Nat} {f : Nat → Int} (h : NumsAt w g f) (i : Nat) (hi : i < 19) : w.cell? ⟨g, i, none⟩ = some (.int .i64 (f i)) := World.rowIs.cell h hi
theorem NumsAt.below {w w' : World} {g : Nat} {f : Nat → Int} (h : NumsAt w g f) (hb : Below w.heap.size w w') : NumsAt w' g f := World.rowIs.of_block h (hb.block g (World.rowIs.lt h))
theorem nums_new {w : World} {g : Nat} (hg : w.heap.size = g) (f : Nat → Int) (cs : Array Value) (hs : cs.size = 19) (hc : ∀ i, i < 19 → cs[i]? = some (.int .i64 (f i))) : NumsAt (w.alloc (.cells cs 3)) g f := by
  subst hg
  have := World.rowIs_alloc w cs 3 (fun i => .int .i64 (f i)) (by rw [hs]; exact hc)
  rw [hs] at this
  exact this
set_option maxRecDepth 100000 in
set_option maxHeartbeats 2000000 in
theorem all_any (c : CmdIn) (w : World) : Calls Tryz.prog 61 #[.agg c.val] w (GivesN c.num w) := by
  unfold CmdIn.val
  go_enter Tryz.func61, Tryz.ntmps61
  go_wp2
  go_ret
  refine ⟨_, rfl, ?_, nums_new ?_ c.num _ rfl fun i hi => ?_, below_al (below_al (Below.refl _ _) _) _⟩
  · simp
  · simp
  · match i, hi with
    | 0, _ => rfl
    | 1, _ => rfl
    | 2, _ => rfl
    | 3, _ => rfl
    | 4, _ => rfl
    | 5, _ => rfl
    | 6, _ => rfl
    | 7, _ => rfl
    | 8, _ => rfl
    | 9, _ => rfl
    | 10, _ => rfl
    | 11, _ => rfl
    | 12, _ => rfl
    | 13, _ => rfl
    | 14, _ => rfl
    | 15, _ => rfl
    | 16, _ => rfl
    | 17, _ => rfl
    | 18, _ => rfl
    | n + 19, h => omega
end Cmd
end Go.Proofs.YtlhalhilnkneeaaGreatDoor
end
section
namespace Go.Proofs.YtlhalhilnkneeaaGreatDoor
open Go.RowKit
namespace Ord
section
variable {P : Program} {ops : Array Oper} {Q : Exit → Act → World → Prop} {md : Region.Mode} {S : World → Prop} {D : Nat → Bool}
/-- Whatever order is picked; S holds behind every operation that does not wait for a load. -/
def wpAnyU (P : Program) (md : Region.Mode) (ops : Array Oper) (Q : Exit → Act → World → Prop) (S : World → Prop) (D : Nat → Bool) : Nat → Array Bool → Act → World → Prop
  | 0, listed, a, w => Region.ready md ops listed = [] ∧ Q .normal a w
  | fuel + 1, listed, a, w =>
    (Region.ready md ops listed = [] → Q .normal a w) ∧
    ∀ i ∈ Region.ready md ops listed, wpOp P ops Q i (fun a' w' => (D i = false → S w') ∧ wpAnyU P md ops Q S D fuel (listed.setIfInBounds i true) a' w') a w
theorem wpAny_of_U : ∀ (fuel : Nat) (listed : Array Bool) (a : Act) (w : World), wpAnyU P md ops Q S D fuel listed a w → wpAny P md ops Q fuel listed a w
  | 0, _, _, _, h => h
  | fuel + 1, _, _, _, h => ⟨h.1, fun i hi => wpOp_mono (fun a' w' h' => wpAny_of_U fuel _ a' w' h'.2) (h.2 i hi)⟩
theorem off_of {listed : Array Bool} {k : Nat} (h : listed.getD k true = false) : listed.getD k false = false := by
  rcases Nat.lt_or_ge k listed.size with h' | h'
  · simp [h'] at h ⊢; exact h
  · simp [Array.getElem?_eq_none h'] at h
theorem wpAnyU_first {E : Nat → Bool} (hDE : ∀ j, D j = true → E j = true) {i : Nat} {oi : Oper} {v : Value} (hi : ops[i]? = some oi) (hsel : ∀ (j : Nat) (o : Oper) cs b, ops[j]? = some o → o.op ≠ .select cs b)
    (hQ : ∀ c a w, Q (.panic c) (a.put oi.dst v) w → Q (.panic c) a w) (hdep : ∀ j oj, ops[j]? = some oj → E j = true → ∃ e ∈ oj.after, Region.binds md e = true ∧ (e.on = i ∨ E e.on = true)) :
    ∀ (fuel : Nat) (listed : Array Bool) (a : Act) (w : World),
      (∀ j oj, ops[j]? = some oj → j ≠ i → listed.getD j true = false → (∀ e ∈ oj.after, Region.binds md e = true → e.on ≠ i) → oi.apart ops oj = true) →
      i ∈ Region.ready md ops listed → (∀ j, E j = true → listed.getD j true = false) → YieldsIf P ops S oi v a → S w →
      wpAnyU P md ops Q S D fuel (listed.setIfInBounds i true) (a.put oi.dst v) w → wpAnyU P md ops Q S D (fuel + 1) listed a w := by
  intro fuel
  induction fuel with
  | zero =>
    intro listed a w _ hr _ hy hS H
    refine ⟨fun h => (by rw [h] at hr; cases hr), fun j hj => ?_⟩
    by_cases hji : j = i
    · subst hji; exact hy.wpOp hi hS ⟨fun _ => hS, H⟩
    · have := ready_mono hj hji
      rw [H.1] at this
      cases this
  | succ fuel ih =>
    intro listed a w hfree hr hU hy hS H
    refine ⟨fun h => (by rw [h] at hr; cases hr), fun j hj => ?_⟩
    by_cases hji : j = i
    · subst hji; exact hy.wpOp hi hS ⟨fun _ => hS, H⟩
    · have h1 := H.2 j (ready_mono hj hji)
      obtain ⟨hjun, oj, hoj, hall⟩ := mem_ready.1 hj
      have hioff := off_of (mem_ready.1 hr).1
      have hnot : ∀ e ∈ oj.after, Region.binds md e = true → e.on ≠ i := fun e he hb heq => by
        have h1 := hall e he hb
        rw [heq, hioff] at h1
        cases h1
      have hEj : E j = false := by
        cases hd : E j with
        | false => rfl
        | true =>
          obtain ⟨e, he, hb, hor⟩ := hdep j oj hoj hd
          have h2 := hall e he hb
          rcases hor with h3 | h3
          · rw [h3, hioff] at h2; cases h2
          · rw [off_of (hU _ h3)] at h2; cases h2
      have hDj : D j = false := by
        cases hd : D j with
        | false => rfl
        | true => rw [hDE j hd] at hEj; cases hEj
      have h2 := wpOp_putIf hoj (hfree j oj hoj hji hjun hnot) (fun cs b => hsel i oi cs b hi) (fun cs b => hsel j oj cs b hoj) hQ hy h1
      have hfree' : ∀ k ok, ops[k]? = some ok → k ≠ i → (listed.setIfInBounds j true).getD k true = false →
          (∀ e ∈ ok.after, Region.binds md e = true → e.on ≠ i) → oi.apart ops ok = true := fun k ok hk hki hun hno => by
        refine hfree k ok hk hki ?_ hno
        by_cases hjk : j = k
        · subst hjk; exact hjun
        · rw [getD_set_ne true hjk] at hun; exact hun
      have hU' : ∀ k, E k = true → (listed.setIfInBounds j true).getD k true = false := fun k hk => by
        have hjk : j ≠ k := fun e => by rw [e, hk] at hEj; cases hEj
        rw [getD_set_ne true hjk]
        exact hU k hk
      refine wpOp_mono (fun a' w' h3 => ⟨fun _ => h3.2.1 hDj, ih (listed.setIfInBounds j true) a' w' hfree' (ready_mono hr (Ne.symm hji)) hU' h3.1 (h3.2.1 hDj) ?_⟩) h2
      rw [Array.setIfInBounds_comm _ _ hji]
      exact h3.2.2
/-- Whoever waits: each of them waits for i, or for another of them. -/
def waits (md : Region.Mode) (ops : Array Oper) (D : Nat → Bool) (i : Nat) : Bool :=
  (List.range ops.size).all fun j => !D j || match ops[j]? with
    | some oj => oj.after.any fun e => Region.binds md e && (e.on == i || D e.on)
    | none => true
theorem waits_spec {i : Nat} (h : waits md ops D i = true) (j : Nat) (oj : Oper) (hj : ops[j]? = some oj) (hd : D j = true) : ∃ e ∈ oj.after, Region.binds md e = true ∧ (e.on = i ∨ D e.on = true) := by
  simp only [waits, List.all_eq_true, List.mem_range] at h
  have h1 := h j (Array.getElem?_eq_some_iff.1 hj).1
  simp only [hj, hd, Bool.not_true, Bool.false_or] at h1
  obtain ⟨e, he, hb⟩ := Array.any_eq_true'.1 h1
  simp only [Bool.and_eq_true, Bool.or_eq_true, beq_iff_eq] at hb
  exact ⟨e, he, hb.1, hb.2⟩
/-- None of those who wait has come up. -/
def ahead (D : Nat → Bool) (n : Nat) (listed : Array Bool) : Bool := (List.range n).all fun j => !D j || !listed.getD j true
theorem ahead_spec {n : Nat} {listed : Array Bool} (hD : ∀ j, D j = true → j < n) (h : ahead D n listed = true) (j : Nat) (hd : D j = true) : listed.getD j true = false := by
  simp only [ahead, List.all_eq_true, List.mem_range] at h
  have h1 := h j (hD j hd)
  rw [hd] at h1
  simpa using h1
/-- Those of a list. -/
def among (l : List Nat) (j : Nat) : Bool := l.contains j
theorem among_lt {l : List Nat} {n : Nat} (h : l.all (fun j => decide (j < n)) = true) (j : Nat) (hj : among l j = true) : j < n := by
  simp only [List.all_eq_true, decide_eq_true_eq] at h
  exact h j (by simpa [among] using hj)
/-- Whoever waits for i, directly or by another. -/
def desc (md : Region.Mode) (ops : Array Oper) (i : Nat) : List Nat :=
  (List.range ops.size).foldl (fun acc j => if (match ops[j]? with | some oj => oj.after.any fun e => Region.binds md e && (e.on == i || acc.contains e.on) | none => false) then acc ++ [j] else acc) []
theorem wpAnyU_take {l : List Nat} {i : Nat} {oi : Oper} {v : Value} {fuel : Nat} {listed : Array Bool} {a : Act} {w : World} (hi : ops[i]? = some oi)
    (hs : Region.noSelect ops = true) (hf : Region.free md ops listed i = true) (hr : (Region.ready md ops listed).contains i = true)
    (hd : l.all (fun j => (desc md ops i).contains j) = true) (hw : waits md ops (among (desc md ops i)) i = true) (hl : (desc md ops i).all (fun j => decide (j < listed.size)) = true) (ha : ahead (among (desc md ops i)) listed.size listed = true)
    (hQ : ∀ c a w, Q (.panic c) (a.put oi.dst v) w → Q (.panic c) a w) (hy : YieldsIf P ops S oi v a) (hS : S w)
    (h : wpAnyU P md ops Q S (among l) fuel (listed.setIfInBounds i true) (a.put oi.dst v) w) : wpAnyU P md ops Q S (among l) (fuel + 1) listed a w :=
  wpAnyU_first (E := among (desc md ops i)) (fun j hj => by
    simp only [List.all_eq_true] at hd
    exact hd j (by simpa [among] using hj)) hi (Region.noSelect_spec hs) hQ (waits_spec hw) fuel listed a w (Region.free_spec hi hf) (by simpa using hr) (ahead_spec (among_lt hl) ha) hy hS h
/-- What yields in whatever world, however late it stands: an operation that is not waited for by those of the list may be taken when nobody else can come up. -/
theorem wpAnyU_one {i : Nat} {o : Oper} {fuel : Nat} {listed : Array Bool} {a : Act} {w : World} (hr : Region.ready md ops listed = [i]) (ho : ops[i]? = some o)
    (h : ∀ K' : Act → World → Prop, Shut (∀ a w, (D i = false → S w) → wpAnyU P md ops Q S D fuel (listed.setIfInBounds i true) a w → K' a w) → if Region.wanted o (yielded ops a.tmps) = true then Oper.wp P o a w K' Q else K' (a.put o.dst undef) w) :
    wpAnyU P md ops Q S D (fuel + 1) listed a w := by
  refine ⟨fun h0 => absurd (hr ▸ h0) (by simp), fun j hj => ?_⟩
  rw [hr] at hj
  rw [List.mem_singleton.1 hj]
  exact wpOp_step ho fun K' hK => h K' fun a w hS hW => hK a w ⟨hS, hW⟩
theorem wpAnyU_done {listed : Array Bool} {a : Act} {w : World} (hr : Region.ready md ops listed = []) (h : Q .normal a w) : ∀ fuel, wpAnyU P md ops Q S D fuel listed a w
  | 0 => ⟨hr, h⟩
  | _ + 1 => ⟨fun _ => h, by rw [hr]; simp⟩
theorem wp_region_U {id : Nat} {a : Act} {w : World} (S : World → Prop) (l : List Nat) (hm : P.follows .mixedOrders = true)
    (h : wpAnyU P .any ops Q S (among l) ops.size (Array.replicate ops.size false) a w.drew) : (Code.region id ops true).wp P Q a w :=
  wp_region_any hm (wpAny_of_U _ _ _ _ h)
end
end Ord
end Go.Proofs.YtlhalhilnkneeaaGreatDoor
end
section
namespace Go.Proofs.YtlhalhilnkneeaaGreatDoor
open Go.RowKit Go.Great
namespace Cmd
open Pen (bs)
open In (Strs)
open Rec (below2 below_al below_dN Stk Stks stkVals stks_of_own stkVals_length stkVals_get)
theorem info_parts {P : Program} {e : TypeId} {z : Value} {n b : Nat} (h : (P.info? e).map (fun i => (i.zero, i.size, i.bytes)) = some (some z, n, b)) : ∃ i, P.info? e = some i ∧ i.zero = some z ∧ i.size = n ∧ i.bytes = b := by
  cases hi : P.info? e with
  | none => rw [hi] at h; cases h
  | some i =>
    rw [hi] at h
    simp only [Option.map_some, Option.some.injEq, Prod.mk.injEq] at h
    exact ⟨i, rfl, h.1, h.2.1, h.2.2⟩
theorem stkinfo : (Tryz.prog.info? 106).map (fun i => (i.zero, i.size, i.bytes)) = some (some (.agg #[.int .i64 0, .int .i64 0]), 2, 16) := by kernel_rfl
/-- Stacks are given back. -/
def GivesS (l : List Stk) (w : World) (e : Ending) (w' : World) : Prop := ∃ a c, e = .returned (.slice a l.length c) ∧ Hid (Stks w' a l) ∧ Hid (Below w.heap.size w w') ∧ Hid (∀ x, a = some x → w.heap.size ≤ x.block)
theorem own_far {w : World} {base n m : Nat} {T : TypeId} {a : Option Addr} {c : Nat} {xs : List Value} (h : w.ownsRow base T 2 (.slice a n c) m xs) : ∀ x, a = some x → base ≤ x.block := by
  rcases h.2 with ⟨e, _⟩ | ⟨g, cap, cur, e, hb, _⟩
  · cases e; intro x hx; cases hx
  · cases e; intro x hx; cases hx; exact hb
theorem stks_cell {w : World} {b off : Nat} {l : List Stk} (h : Stks w (some ⟨b, off, none⟩) l) (j : Nat) (u : Value) (hu : (stkVals l)[j]? = some u) : w.cell? ⟨b, off + j, none⟩ = some u := by
  have hj : j < (stkVals l).length := (List.getElem?_eq_some_iff.1 hu).1
  rw [stkVals_length] at hj
  have hi : j / 2 < l.length := by omega
  obtain ⟨b', off', e, _, h1, h2⟩ := h (j / 2) hi
  cases e
  obtain ⟨g1, g2⟩ := stkVals_get l (j / 2) hi
  rcases Nat.mod_two_eq_zero_or_one j with hm | hm
  · have e1 : j / 2 * 2 = j := by omega
    rw [e1] at g1 h1
    rw [h1, ← g1, hu]
  · have e1 : j / 2 * 2 + 1 = j := by omega
    rw [e1] at g2
    rw [Nat.add_assoc, e1] at h2
    rw [h2, ← g2, hu]
theorem stk_one (l : List Stk) : ∀ u ∈ stkVals l, u.oneCell' = true := by
  intro u hu
  simp only [stkVals, List.mem_flatMap, List.mem_cons, List.not_mem_nil, or_false] at hu
  obtain ⟨s, _, rfl | rfl⟩ := hu <;> rfl
set_option maxHeartbeats 2000000 in
set_option maxRecDepth 100000 in
theorem clone_any (a : Option Addr) (c : Nat) (l : List Stk) (n : Nat) (hn : l.length = n) (hl : n ≤ 100) (w : World) (ha : Stks w a l) :
    Calls Tryz.prog 135 #[.slice a n c] w (GivesS l w) := by
  have HA := Lib.hid ha
  have HN := Lib.hid hn
  have q22 : ∀ (w : World) (a : Option Addr) (n c : Nat), (binOp .eql 39 (.slice a n c) (.slice none 0 0)).run Tryz.prog w = .ok (.bool a.isNone) w := fun w a n c => Lib.run_eql_slice_nil w _ _ a n c _ _ Tryz.underlying39
  obtain ⟨i0, hi, hz0, hz1, hz2⟩ := info_parts stkinfo
  cases a with
  | none =>
    have h0 : l = [] := by
      cases l with
      | nil => rfl
      | cons x l => obtain ⟨b, off, e, _⟩ := ha 0 (by simp); cases e
    have HL : Hid (l.length = 0) := by show l.length = 0; rw [h0]; rfl
    have HQ : Hid (∀ w', Stks w' none l) := fun w' i hi => by rw [HL.out] at hi; omega
    clear h0 ha hn
    go_enter Tryz.func135, Tryz.ntmps135
    go_wp2
    go_ret
    exact ⟨none, 0, by rw [HL.out]; rfl, HQ.out _, Below.refl _ _, fun x hx => by cases hx⟩
  | some x =>
    have hx : ∃ y : Addr, (∀ j u, (stkVals l)[j]? = some u → w.cell? (y.add j) = some u) ∧ x = y := by
      refine ⟨x, fun j u hj => ?_, rfl⟩
      have hj1 : j < (stkVals l).length := (List.getElem?_eq_some_iff.1 hj).1
      rw [stkVals_length] at hj1
      obtain ⟨b, off, e, _⟩ := ha 0 (by omega)
      cases e
      have e2 : (⟨b, off, none⟩ : Addr).add j = ⟨b, off + j, none⟩ := by unfold Addr.add; split <;> simp_all
      rw [e2]
      exact stks_cell ha j u hj
    obtain ⟨y, hy, rfl⟩ := hx
    have HY := Lib.hid hy
    clear hy ha hn
    go_enter Tryz.func135, Tryz.ntmps135
    go_wp2_with (at_builtin; refine wpList_append_own _ rfl _ _ 39 rfl w.heap.size 106 i0 _ 2 16 Tryz.underlying39 hi hz0 hz1 hz2 rfl (by omega) _ _ _ rfl (World.ownsRow_made w #[] 0 (Nat.le_refl _) (Nat.zero_le _) (by simp)) x n c (stkVals l) rfl ?qc1 ?qc2 ?qc3 ?qc4 ?qc5 ?qc6 ?_)
    case qc1 => rw [stkVals_length, HN.out]
    case qc2 =>
      intro j u hj
      exact Lib.cell?_alloc_some _ (HY.out j u hj)
    case qc3 => exact stk_one l
    case qc4 => unfold maxLen; omega
    case qc5 => omega
    case qc6 => simp
    intro v' w1 hown hgrow hnil
    go_wp2
    go_ret
    have hown2 : w1.ownsRow w.heap.size 106 2 v' l.length (stkVals l) := by
      rw [HN.out]
      simpa using hown
    obtain ⟨a', c', rfl, hs⟩ := stks_of_own hown2
    have hfar := own_far hown2
    exact ⟨a', c', rfl, hs, ((Below.refl _ w).alloc (Nat.le_refl _) _).grown hgrow (by simp) (by intro k hk; simp [Value.ownBlock] at hk; omega), hfar⟩
end Cmd
end Go.Proofs.YtlhalhilnkneeaaGreatDoor
end
section
namespace Go.Proofs.YtlhalhilnkneeaaGreatDoor
open Go.RowKit Go.Great
namespace Cmd
open Pen (bs)
open In (Strs)
open Rec (below2 below_al below_dN Stk Stks stkVals)
/-- The number of a name. -/
def getV (c : CmdIn) (s : ByteArray) : Int × Bool := match place s with
  | some i => (c.num i, true)
  | none => (0, false)
set_option maxRecDepth 100000 in
theorem get_any (c : CmdIn) (s : ByteArray) (w : World) : Calls Tryz.prog 66 #[.agg c.val, .string s] w fun e w' => e = .returned (.tuple #[.int .i64 (getV c s).1, .bool (getV c s).2]) ∧ Below w.heap.size w w' := by
  have HST := Lib.hid (stand_new (w := w) rfl c)
  have CF : Hid (∀ g W, Calls Tryz.prog 74 #[.pointer (some ⟨g, 0, none⟩), .string s] W fun e w' => e = .returned (.pointer (at0 g (place s))) ∧ W = w') := fun g W => field_any g s W
  cases hp : place s with
  | some i =>
    obtain ⟨hi, -⟩ := place_lt 19 i hp
    have HV : Hid (getV c s = (c.num i, true)) := by show _ = _; unfold getV; rw [hp]
    rw [HV.out]
    rw [hp] at CF
    have hx := HST.out.num i hi
    generalize c.num i = X at *
    generalize c.val = V at *
    clear hp HV
    unfold at0 at CF
    go_enter Tryz.func66, Tryz.ntmps66
    go_wp2_with (go_at_call 74; (with_reducible refine (CF.out _ _).mono ?_); rintro e w1 ⟨rfl, rfl⟩)
    all_goals go_ret2
    all_goals exact ⟨rfl, below_al (Below.refl _ _) _⟩
  | none =>
    have HV : Hid (getV c s = (0, false)) := by show _ = _; unfold getV; rw [hp]
    rw [HV.out]
    rw [hp] at CF
    generalize c.val = V at *
    clear hp HV
    unfold at0 at CF
    go_enter Tryz.func66, Tryz.ntmps66
    go_wp2_with (go_at_call 74; (with_reducible refine (CF.out _ _).mono ?_); rintro e w1 ⟨rfl, rfl⟩)
    all_goals go_ret2
    all_goals exact ⟨rfl, below_al (Below.refl _ _) _⟩
set_option maxRecDepth 100000 in
theorem refGet_any (c : CmdIn) (s : ByteArray) (w : World) : Calls Tryz.prog 84 #[.agg c.val, .string s] w fun e w' => e = .returned (.tuple #[.int .i64 (getV c s).1, .bool (getV c s).2]) ∧ Below w.heap.size w w' := by
  have HST := Lib.hid (stand_new (w := w) rfl c)
  have CP : Hid (∀ W, Calls Tryz.prog 108 #[.string s] W fun e w' => e = .returned (.int .i64 (plI (place s))) ∧ Below W.heap.size W w') := fun W => place_any s W
  have CA : Hid (∀ W, Calls Tryz.prog 61 #[.agg c.val] W (GivesN c.num W)) := fun W => all_any c W
  cases hp : place s with
  | some i =>
    obtain ⟨hi, -⟩ := place_lt 19 i hp
    have HV : Hid (getV c s = (c.num i, true)) := by show _ = _; unfold getV; rw [hp]
    have HP : Hid (plI (some i) = (i : Int)) := rfl
    rw [HV.out]
    rw [hp, HP.out] at CP
    have hi1 : (i : Int) < 19 := by omega
    have hi0 : (0 : Int) ≤ (i : Int) := by omega
    have n0 : ¬ (i : Int) < 0 := by omega
    clear hp HV
    go_enter Tryz.func84, Tryz.ntmps84
    go_wp2_with (first
      | (go_at_call 108; (with_reducible refine (CP.out _).mono ?_); rintro e w1 ⟨rfl, hb1⟩; have HB1 := Lib.hid hb1; clear hb1; have HS1 := Lib.hid (HST.out.below HB1.out))
      | (refine load_cmd rfl (.tmp 2) rfl w.heap.size rfl c HS1.out ?_)
      | (go_at_call 61; (with_reducible refine (CA.out _).mono ?_); rintro e w2 ⟨g2, rfl, hg2, HN2, HB2⟩; have cx := HN2.out.cell i hi))
    all_goals go_ret2
    all_goals exact ⟨rfl, (below2 (below_al (Below.refl _ _) _) (below2 HB1.out HB2.out))⟩
  | none =>
    have HV : Hid (getV c s = (0, false)) := by show _ = _; unfold getV; rw [hp]
    have HP : Hid (plI none = -1) := rfl
    rw [HV.out]
    rw [hp, HP.out] at CP
    generalize c.val = V at *
    clear hp HV
    go_enter Tryz.func84, Tryz.ntmps84
    go_wp2_with (go_at_call 108; (with_reducible refine (CP.out _).mono ?_); rintro e w1 ⟨rfl, hb1⟩; have HB1 := Lib.hid hb1; clear hb1)
    all_goals go_ret2
    all_goals exact ⟨rfl, below2 (below_al (Below.refl _ _) _) HB1.out⟩
/-- A command with other numbers. -/
def CmdIn.with (c : CmdIn) (f : Nat → Int) : CmdIn := { c with num := f }
theorem wp_named {P : Program} {c : Code} {Q : Exit → Act → World → Prop} {a : Act} {w : World} (h : ∀ W, W = w → c.wp P Q a W) : c.wp P Q a w := h w rfl
/-- A command that is nothing. -/
def zeroC : CmdIn := ⟨0, fun _ => 0, [], none, 0, [], none, 0⟩
theorem Stand.three {w : World} {g : Nat} {c : CmdIn} (h : Stand w g c) : w.cell? ⟨g, 0, none⟩ = some (.int .i64 c.kind) ∧ w.cell? ⟨g, 20, none⟩ = some (.slice c.ga c.gives.length c.gc) ∧ w.cell? ⟨g, 21, none⟩ = some (.slice c.wa c.wants.length c.wc) :=
  ⟨World.rowIs.cell h (i := 0) (by decide), World.rowIs.cell h (i := 20) (by decide), World.rowIs.cell h (i := 21) (by decide)⟩
set_option maxRecDepth 100000 in
set_option maxHeartbeats 4000000 in
theorem of_any (c : CmdIn) (g : Nat) (f : Nat → Int) (w : World) (h : NumsAt w g f) : Calls Tryz.prog 109 #[.agg c.val, .slice (some ⟨g, 0, none⟩) 19 19] w fun e w' => e = .returned (.agg (c.with f).val) ∧ Below w.heap.size w w' := by
  have HST := Lib.hid (stand_new (w := w) rfl c)
  have HN := Lib.hid h
  clear h
  obtain ⟨V, hV⟩ : ∃ V, Hid (c.val = V) := ⟨_, rfl⟩
  rw [hV.out]
  go_enter Tryz.func109, Tryz.ntmps109
  go_wp2
  refine wp_named fun W hW => ?_
  have hW2 : W = (w.alloc (.cells V 41)).alloc (.cells zeroC.val 41) := hW
  have HB : Hid (Below w.heap.size w W) := by rw [hW2]; exact below_al (below_al (Below.refl _ _) _) _
  have HS : Hid (Stand W w.heap.size c) := by
    rw [hW2, ← hV.out]
    exact HST.out.below (below_al (Below.refl _ _) _)
  have HG : Hid (W.heap[w.heap.size + 1]? = some (.cells zeroC.val 41 (0, 0))) := by
    rw [hW2]
    exact heap_alloc2_new w _ _
  have HNW := Lib.hid (HN.out.below HB.out)
  obtain ⟨b0, b20, b21⟩ := HS.out.three
  have c0 := HNW.out.cell 0 (by decide)
  have c1 := HNW.out.cell 1 (by decide)
  have c2 := HNW.out.cell 2 (by decide)
  have c3 := HNW.out.cell 3 (by decide)
  have c4 := HNW.out.cell 4 (by decide)
  have c5 := HNW.out.cell 5 (by decide)
  have c6 := HNW.out.cell 6 (by decide)
  have c7 := HNW.out.cell 7 (by decide)
  have c8 := HNW.out.cell 8 (by decide)
  have c9 := HNW.out.cell 9 (by decide)
  have c10 := HNW.out.cell 10 (by decide)
  have c11 := HNW.out.cell 11 (by decide)
  have c12 := HNW.out.cell 12 (by decide)
  have c13 := HNW.out.cell 13 (by decide)
  have c14 := HNW.out.cell 14 (by decide)
  have c15 := HNW.out.cell 15 (by decide)
  have c16 := HNW.out.cell 16 (by decide)
  have c17 := HNW.out.cell 17 (by decide)
  have c18 := HNW.out.cell 18 (by decide)
  clear hW hW2
  refine wp_region_still_tail 63 (by kernel_rfl) (by kernel_rfl) ?_
  simp only [List.append_eq, List.cons_append, List.nil_append, List.take_succ_cons, List.take_zero, List.drop_succ_cons, List.drop_zero]
  repeat still_step
  try refine wpStill_nil ?_
  clear c0 c1 c2 c3 c4 c5 c6 c7 c8 c9 c10 c11 c12 c13 c14 c15 c16 c17 c18
  refine wpList_buildTo rfl 41 _ rfl (some 68) rfl (c.with f).val (by as_aux_lemma => kernel_rfl) ?_
  refine wpList_store_rowTo rfl 41 (.tmp 4) (.tmp 68) rfl rfl (w.heap.size + 1) (c.with f).val (by as_aux_lemma => kernel_rfl) (by as_aux_lemma => kernel_rfl) 41 zeroC.val HG.out (by as_aux_lemma => kernel_rfl) (by as_aux_lemma => kernel_rfl) (by as_aux_lemma => kernel_rfl) ?_
  apply wpList_nil
  go_step
  go_step
  try go_step
  exact bodyPost_ret (v := .agg (c.with f).val) (results_cell_row rfl _ _ (w.heap.size + 1) 41 (c.with f).val (0, 0) _ (by as_aux_lemma => kernel_rfl) (setRow_heap _ _ zeroC.val _ _ _ HG.out) Tryz.underlying41 rfl (by as_aux_lemma => kernel_rfl)) (by as_aux_lemma => kernel_rfl) ⟨rfl, below_setRow (below_dN HB.out 1) _ (by omega) _⟩
end Cmd
end Go.Proofs.YtlhalhilnkneeaaGreatDoor
end
section
namespace Go.Proofs.YtlhalhilnkneeaaGreatDoor
open Go.RowKit Go.Great
namespace Cmd
open Pen (bs)
open In (Strs)
open Rec (below2 below_al below_dN Stk Stks stkVals)
theorem Stks.setRow {w : World} {a : Option Addr} {l : List Stk} (h : Stks w a l) {g : Nat} (hp : ∀ x, a = some x → x.block ≠ g) (cs : Array Value) : Stks (w.setRow g cs) a l := fun i hi => by
  obtain ⟨b, off, e, hlt, hc, hd⟩ := h i hi
  have hne : b ≠ g := hp _ e
  have hk : (w.setRow g cs).heap[b]? = w.heap[b]? := by simp only [World.setRow, Array.getElem?_modify]; rw [if_neg (by omega)]
  refine ⟨b, off, e, by simpa [World.setRow] using hlt, ?_, ?_⟩
  · unfold World.cell? at hc ⊢; rw [hk]; exact hc
  · unfold World.cell? at hd ⊢; rw [hk]; exact hd
/-- The stacks of a command lie there. -/
structure Lies (w : World) (c : CmdIn) : Prop where
  g : Stks w c.ga c.gives
  w : Stks w c.wa c.wants
theorem Stks.setCell {w : World} {a : Option Addr} {l : List Stk} (h : Stks w a l) {p : Addr} (hp : ∀ x, a = some x → x.block ≠ p.block) (u : Value) : Stks (w.setCell p u) a l := fun i hi => by
  obtain ⟨b, off, e, hlt, hc, hd⟩ := h i hi
  have hne : b ≠ p.block := hp _ e
  have hk := Below.heap_setCell w p u b hne
  refine ⟨b, off, e, by simpa using hlt, ?_, ?_⟩
  · unfold World.cell? at hc ⊢; rw [hk]; exact hc
  · unfold World.cell? at hd ⊢; rw [hk]; exact hd
theorem Lies.below {w w' : World} {c : CmdIn} (h : Lies w c) (hb : Below w.heap.size w w') : Lies w' c := ⟨h.g.below hb, h.w.below hb⟩
/-- Commands that say the same. -/
structure Eqv (a b : CmdIn) : Prop where
  kind : a.kind = b.kind
  num : a.num = b.num
  gives : a.gives = b.gives
  wants : a.wants = b.wants
theorem Eqv.refl (a : CmdIn) : Eqv a a := ⟨rfl, rfl, rfl, rfl⟩
theorem Lies.zero (w : World) : Lies w zeroC := ⟨fun i hi => by simp [zeroC] at hi, fun i hi => by simp [zeroC] at hi⟩
/-- A command and a yes or no are given back. -/
def GivesB (t : CmdIn) (b : Bool) (w : World) (e : Ending) (w' : World) : Prop := ∃ c', e = .returned (.tuple #[.agg c'.val, .bool b]) ∧ Hid (Eqv c' t) ∧ Hid (Lies w' c') ∧ Hid (Below w.heap.size w w')
/-- The command with another number. -/
def setV (c : CmdIn) (s : ByteArray) (n : Int) : CmdIn := match place s with
  | some i => c.set i n
  | none => zeroC
theorem NumsAt.set {w : World} {g : Nat} {f : Nat → Int} (h : NumsAt w g f) (k : Nat) (n : Int) : NumsAt (w.setCell ⟨g, k, none⟩ (.int .i64 n)) g (fun i => if i = k then n else f i) := by
  refine World.rowIs.congr (World.rowIs.set h k _) fun i hi => ?_
  by_cases h0 : i = k
  · rw [if_pos h0]; simp only [if_pos h0]
  · rw [if_neg h0]; simp only [if_neg h0]
theorem val_num (c : CmdIn) (i : Nat) (hi : i < 19) : c.val[1 + i]? = some (.int .i64 (c.num i)) := by
  rw [val_get c (1 + i) (by omega)]
  unfold CmdIn.cell
  rw [if_neg (by omega), if_neg (by omega), if_neg (by omega), Nat.add_sub_cancel_left]
theorem set_with (c : CmdIn) (k : Nat) (n : Int) : c.with (fun i => if i = k then n else c.num i) = c.set k n := rfl
/-- A command is stored whole. -/
theorem store_cmd {ops : Array Oper} {rest : List Oper} {o : Oper} {a : Act} {w : World} {Q : Exit → Act → World → Prop} (hgd : o.guard = none) (x y : Operand) (ho : o.op = .store 41 x y) (hd : o.dst = none)
    (g : Nat) (c c0 : CmdIn) (hx : a.eval x = .pointer (some ⟨g, 0, none⟩)) (hy : a.eval y = .agg c.val) (hg : w.heap[g]? = some (.cells c0.val 41 (0, 0)))
    (h : wpList Tryz.prog ops Q rest a (w.setRow g c.val)) : wpList Tryz.prog ops Q (o :: rest) a w :=
  wpList_store_rowTo hgd 41 x y ho hd g c.val hx hy 41 c0.val hg (size_val c) rfl (by simp [CmdIn.val, Value.oneCell']) h
theorem setRow_cmd {w : World} {g : Nat} (c : CmdIn) {c0 : CmdIn} (hg : w.heap[g]? = some (.cells c0.val 41 (0, 0))) : (w.setRow g c.val).heap[g]? = some (.cells c.val 41 (0, 0)) := setRow_heap w g c0.val c.val _ _ hg
/-- What is returned: a command and one more. -/
theorem ret_cmd {fn : Func} {p q : Tmp} (h : fn.results = #[.cell p 41, ResultVar.tmp q]) (tmps : Array Value) (w : World) (g : Nat) (c : CmdIn) (b : Value)
    (hp : tmps.getD p undef = .pointer (some ⟨g, 0, none⟩)) (hq : tmps.getD q undef = b) (hg : w.heap[g]? = some (.cells c.val 41 (0, 0))) :
    (results fn tmps).run Tryz.prog w = .ok (.tuple #[.agg c.val, b]) w := by
  have hp' : tmps[p]?.getD undef = .pointer (some ⟨g, 0, none⟩) := by simpa using hp
  have hq' : tmps[q]?.getD undef = b := by simpa using hq
  rw [results_cell_tmp h]
  simp [hp', hq', asAddr, run_loadVar_row _ _ _ _ c.val _ _ hg Tryz.underlying41 rfl (size_val c)]
theorem set_keeps {w w1 w2 : World} {g g2 i : Nat} {o : Obj} (n : Int) (hz : w1.heap[g]? = some o) (hg2 : w1.heap.size ≤ g2) (hb : Below w1.heap.size w1 w2) (h12 : Below w.heap.size w w2) (hw : w.heap.size ≤ w1.heap.size) :
    (w2.setCell ⟨g2, i, none⟩ (.int .i64 n)).heap[g]? = some o ∧ Below w.heap.size w (w2.setCell ⟨g2, i, none⟩ (.int .i64 n)) := by
  have hgw := (Array.getElem?_eq_some_iff.1 hz).1
  exact ⟨(Below.heap_setCell _ _ _ _ (by show g ≠ g2; omega)).trans ((hb.block _ hgw).trans hz), h12.setCell (by show w.heap.size ≤ g2; omega) _⟩
set_option maxRecDepth 100000 in
set_option maxHeartbeats 4000000 in
theorem refSet_any (c : CmdIn) (s : ByteArray) (n : Int) (w : World) (hl : Lies w c) : Calls Tryz.prog 60 #[.agg c.val, .string s, .int .i64 n] w (GivesB (setV c s n) (place s).isSome w) := by
  have HL := Lib.hid hl
  clear hl
  have HST := Lib.hid (stand_new (w := w) rfl c)
  have CP : Hid (∀ W, Calls Tryz.prog 108 #[.string s] W fun e w' => e = .returned (.int .i64 (plI (place s))) ∧ Below W.heap.size W w') := fun W => place_any s W
  have CA : Hid (∀ W, Calls Tryz.prog 61 #[.agg c.val] W (GivesN c.num W)) := fun W => all_any c W
  have CO : Hid (∀ g f W, NumsAt W g f → Calls Tryz.prog 109 #[.agg c.val, .slice (some ⟨g, 0, none⟩) 19 19] W fun e w' => e = .returned (.agg (c.with f).val) ∧ Below W.heap.size W w') := fun g f W h => of_any c g f W h
  cases hp : place s with
  | some i =>
    obtain ⟨hi, -⟩ := place_lt 19 i hp
    have HV : Hid (setV c s n = c.set i n) := by show _ = _; unfold setV; rw [hp]
    have HP : Hid (plI (some i) = (i : Int)) := rfl
    rw [HV.out]
    rw [hp, HP.out] at CP
    have hi1 : (i : Int) < 19 := by omega
    have hi0 : (0 : Int) ≤ (i : Int) := by omega
    have n0 : ¬ (i : Int) < 0 := by omega
    clear hp HV
    go_enter Tryz.func60, Tryz.ntmps60
    go_wp2_with (first
      | (go_at_call 108; (with_reducible refine (CP.out _).mono ?_); rintro e w1 ⟨rfl, hb1⟩; have HB1 := Lib.hid hb1; clear hb1; have HS1 := Lib.hid ((HST.out.below (below_al (Below.refl _ _) _)).below HB1.out); have HZ1 : Hid (w1.heap[w.heap.size + 1]? = some (.cells zeroC.val 41 (0, 0))) := ((HB1.out.block (w.heap.size + 1) (by simp)).trans (heap_alloc2_new w _ _)))
      | (refine load_cmd rfl (.tmp 3) rfl w.heap.size rfl c HS1.out ?_)
      | (go_at_call 61; (with_reducible refine (CA.out _).mono ?_); rintro e w2 ⟨g2, rfl, hg2, HN2, HB2⟩; have cx := HN2.out.cell i hi; have fx : w2.frozen? ⟨g2, i, none⟩ = false := World.rowIs.frozen HN2.out i; have HB12 := Lib.hid (below2 (below_al (below_al (Below.refl w.heap.size w) _) _) (below2 HB1.out HB2.out)); have HS2 := Lib.hid (HS1.out.below HB2.out); have hgw : w.heap.size + 1 < w1.heap.size := (Array.getElem?_eq_some_iff.1 HZ1.out).1; have HS3 := Lib.hid (World.rowIs.setOther HS2.out (a := ⟨g2, i, none⟩) (by show w.heap.size ≠ g2; omega) (.int .i64 n)); have HN3 := Lib.hid (HN2.out.set i n); obtain ⟨hz3, hb3⟩ := set_keeps (i := i) n HZ1.out hg2 HB2.out HB12.out (by omega); have HZ3 := Lib.hid hz3; have HB3 := Lib.hid hb3; clear hz3 hb3)
      | (refine load_cmd rfl (.tmp 3) rfl w.heap.size rfl c HS3.out ?_)
      | (go_at_call 109; (with_reducible refine (CO.out _ _ _ HN3.out).mono ?_); rintro e w4 ⟨rfl, hb4⟩; have HZ4 := Lib.hid ((hb4.block _ (Array.getElem?_eq_some_iff.1 HZ3.out).1).trans HZ3.out); have HB4 := Lib.hid (below2 HB3.out hb4); clear hb4)
      | (refine store_cmd rfl (.tmp 6) (.tmp 23) rfl rfl (w.heap.size + 1) (c.set i n) zeroC rfl rfl HZ4.out ?_))
    try simp only [Exit.inBlock, Exit.then]
    refine bodyPost_ret (v := .tuple #[.agg (c.set i n).val, .bool true]) (ret_cmd rfl _ _ (w.heap.size + 1) (c.set i n) _ rfl rfl (setRow_cmd _ HZ4.out)) rfl ⟨c.set i n, rfl, Eqv.refl _, ?_, ?_⟩
    · exact Lies.below (c := c.set i n) ⟨HL.out.g, HL.out.w⟩ (below_setRow HB4.out _ (by omega) _)
    · exact below_setRow HB4.out _ (by omega) _
  | none =>
    have HV : Hid (setV c s n = zeroC) := by show _ = _; unfold setV; rw [hp]
    have HP : Hid (plI none = -1) := rfl
    rw [HV.out]
    rw [hp, HP.out] at CP
    clear hp HV
    go_enter Tryz.func60, Tryz.ntmps60
    go_wp2_with (first
      | (go_at_call 108; (with_reducible refine (CP.out _).mono ?_); rintro e w1 ⟨rfl, hb1⟩; have HB1 := Lib.hid hb1; clear hb1; have HZ1 : Hid (w1.heap[w.heap.size + 1]? = some (.cells zeroC.val 41 (0, 0))) := ((HB1.out.block (w.heap.size + 1) (by simp)).trans (heap_alloc2_new w _ _)))
      | (refine wpList_buildTo rfl 41 _ rfl (some 14) rfl zeroC.val (by as_aux_lemma => kernel_rfl) ?_)
      | (refine store_cmd rfl (.tmp 6) (.tmp 14) rfl rfl (w.heap.size + 1) zeroC zeroC rfl rfl HZ1.out ?_))
    try simp only [Exit.inBlock, Exit.then]
    have HB2 := Lib.hid (below2 (below_al (below_al (Below.refl w.heap.size w) _) _) HB1.out)
    refine bodyPost_ret (v := .tuple #[.agg zeroC.val, .bool false]) (ret_cmd rfl _ _ (w.heap.size + 1) zeroC _ rfl rfl (setRow_cmd _ HZ1.out)) rfl ⟨zeroC, rfl, Eqv.refl _, Lies.zero _, ?_⟩
    exact below_setRow HB2.out _ (by omega) _
end Cmd
end Go.Proofs.YtlhalhilnkneeaaGreatDoor
end
section
namespace Go.Proofs.YtlhalhilnkneeaaGreatDoor
open Go.RowKit Go.Great
namespace Cmd
open Pen (bs)
open In (Strs)
open Rec (below2 below_al below_dN Stk Stks stkVals)
/-- A command with its stacks elsewhere. -/
def CmdIn.at (c : CmdIn) (a1 : Option Addr) (c1 : Nat) (a2 : Option Addr) (c2 : Nat) : CmdIn := { c with ga := a1, gc := c1, wa := a2, wc := c2 }
theorem Stand.at {w : World} {g : Nat} {c : CmdIn} (h : Stand w g c) (a1 : Option Addr) (c1 : Nat) (a2 : Option Addr) (c2 : Nat) :
    Stand ((w.setCell ⟨g, 20, none⟩ (.slice a1 c.gives.length c1)).setCell ⟨g, 21, none⟩ (.slice a2 c.wants.length c2)) g (c.at a1 c1 a2 c2) := by
  refine World.rowIs.congr (World.rowIs.set (World.rowIs.set h 20 _) 21 _) fun i hi => ?_
  unfold CmdIn.cell CmdIn.at
  simp only
  by_cases h0 : i = 21
  · subst h0; rfl
  · rw [if_neg h0]
    by_cases h1 : i = 20
    · subst h1; rfl
    · rw [if_neg h1]
      simp only [if_neg h0, if_neg h1]
theorem num_frozen {w : World} {g : Nat} {c : CmdIn} (h : Stand w g c) (i : Nat) : w.frozen? ⟨g, i, none⟩ = false := World.rowIs.frozen h i
set_option maxRecDepth 100000 in
set_option maxHeartbeats 4000000 in
theorem set_any (c : CmdIn) (s : ByteArray) (n : Int) (w : World) (hl : Lies w c) (hn : c.gives.length ≤ 100 ∧ c.wants.length ≤ 100) : Calls Tryz.prog 106 #[.agg c.val, .string s, .int .i64 n] w (GivesB (setV c s n) (place s).isSome w) := by
  have HL := Lib.hid hl
  have HN := Lib.hid hn
  clear hl hn
  have HST := Lib.hid (stand_new (w := w) rfl c)
  have CF : Hid (∀ g W, Calls Tryz.prog 74 #[.pointer (some ⟨g, 0, none⟩), .string s] W fun e w' => e = .returned (.pointer (at0 g (place s))) ∧ W = w') := fun g W => field_any g s W
  have CK : Hid (∀ (a : Option Addr) (c : Nat) (l : List Stk) (n : Nat), l.length = n → n ≤ 100 → ∀ w, Stks w a l → Calls Tryz.prog 135 #[.slice a n c] w (GivesS l w)) := fun a c l n hn hl w h => clone_any a c l n hn hl w h
  cases hp : place s with
  | some i =>
    obtain ⟨hi, -⟩ := place_lt 19 i hp
    have HV : Hid (setV c s n = c.set i n) := by show _ = _; unfold setV; rw [hp]
    rw [HV.out]
    rw [hp] at CF
    have HS0 := Lib.hid (HST.out.below (below_al (Below.refl _ _) (.cells zeroC.val 41)))
    have hx := HS0.out.num i hi
    have fx := num_frozen HS0.out (1 + i)
    have hv := val_num c i hi
    obtain ⟨W0, hW0⟩ : ∃ W0, Hid (W0 = (w.alloc (.cells c.val 41)).alloc (.cells zeroC.val 41)) := ⟨_, rfl⟩
    clear hp HV
    unfold at0 at CF
    obtain ⟨V, hV⟩ : ∃ V, Hid (c.val = V) := ⟨_, rfl⟩
    rw [hV.out] at hx fx hv ⊢
    go_enter Tryz.func106, Tryz.ntmps106
    go_wp2_with (go_at_call 74; (with_reducible refine (CF.out _ _).mono ?_); rintro e w1 ⟨rfl, rfl⟩)
    rw [← hV.out]
    refine wp_named fun W hW => ?_
    have hW2 : W = (((w.alloc (.cells c.val 41)).alloc (.cells zeroC.val 41)).setCell ⟨w.heap.size, 1 + i, none⟩ (.int .i64 n)) := by rw [hW]; go_simp; rfl
    have HS : Hid (Stand W w.heap.size (c.set i n)) := by rw [hW2]; exact HS0.out.set i hi n
    have HB : Hid (Below w.heap.size w W) := by rw [hW2]; exact (below_al (below_al (Below.refl _ _) _) _).setCell (Nat.le_refl _) _
    have HZ : Hid (W.heap[w.heap.size + 1]? = some (.cells zeroC.val 41 (0, 0))) := by
      rw [hW2]
      exact (Below.heap_setCell _ _ _ _ (by show w.heap.size + 1 ≠ w.heap.size; omega)).trans (heap_alloc2_new w _ _)
    have HLW : Hid (Lies W.drew c) := HL.out.below (below_dN HB.out 1)
    have hgW : w.heap.size < W.drew.heap.size := World.rowIs.lt HS.out
    have fz := num_frozen HS.out
    have hH0 : W.drew.cell? ⟨w.heap.size, 20, none⟩ = some (.slice c.ga c.gives.length c.gc) ∧ W.drew.cell? ⟨w.heap.size, 21, none⟩ = some (.slice c.wa c.wants.length c.wc) := ⟨World.rowIs.cell HS.out (i := 20) (by decide), World.rowIs.cell HS.out (i := 21) (by decide)⟩
    clear hW hW2 hx fx hv
    refine Ord.wp_region_U (fun W' => W'.cell? ⟨w.heap.size, 20, none⟩ = some (.slice c.ga c.gives.length c.gc) ∧ W'.cell? ⟨w.heap.size, 21, none⟩ = some (.slice c.wa c.wants.length c.wc)) [7, 8, 9] (by kernel_rfl) ?_
    have hHeld := hH0
    refine Ord.wpAnyU_take (i := 0) (v := ?_) rfl (by kernel_rfl) (by kernel_rfl) (by kernel_rfl) (by kernel_rfl) (by kernel_rfl) (by kernel_rfl) (by kernel_rfl) (fun _ _ _ h => h) (Or.inl ⟨by rfl, ?_⟩) hHeld ?_
    rotate_left
    · intro w hSw; (try dsimp only at hSw); go_simp; (try with_reducible rfl)
    try simp only [Act.put, List.setIfInBounds_toArray, List.set_cons_zero, List.set_cons_succ]
    refine Ord.wpAnyU_take (i := 1) (v := ?_) rfl (by kernel_rfl) (by kernel_rfl) (by kernel_rfl) (by kernel_rfl) (by kernel_rfl) (by kernel_rfl) (by kernel_rfl) (fun _ _ _ h => h) (Or.inl ⟨by rfl, ?_⟩) hHeld ?_
    rotate_left
    · intro w hSw; (try dsimp only at hSw); go_simp; (try with_reducible rfl)
    try simp only [Act.put, List.setIfInBounds_toArray, List.set_cons_zero, List.set_cons_succ]
    refine Ord.wpAnyU_take (i := 3) (v := ?_) rfl (by kernel_rfl) (by kernel_rfl) (by kernel_rfl) (by kernel_rfl) (by kernel_rfl) (by kernel_rfl) (by kernel_rfl) (fun _ _ _ h => h) (Or.inl ⟨by rfl, ?_⟩) hHeld ?_
    rotate_left
    · intro w hSw; (try dsimp only at hSw); go_simp; (try with_reducible rfl)
    try simp only [Act.put, List.setIfInBounds_toArray, List.set_cons_zero, List.set_cons_succ]
    refine Ord.wpAnyU_take (i := 4) (v := ?_) rfl (by kernel_rfl) (by kernel_rfl) (by kernel_rfl) (by kernel_rfl) (by kernel_rfl) (by kernel_rfl) (by kernel_rfl) (fun _ _ _ h => h) (Or.inl ⟨by rfl, ?_⟩) hHeld ?_
    rotate_left
    · intro w hSw; (try dsimp only at hSw); go_simp; (try with_reducible rfl)
    try simp only [Act.put, List.setIfInBounds_toArray, List.set_cons_zero, List.set_cons_succ]
    refine Ord.wpAnyU_one (i := 2) (by kernel_rfl) rfl (fun K hK => ?_)
    go_simp
    go_wp2_with ((go_at_call 135; (with_reducible refine (CK.out _ _ _ _ rfl HN.out.1 _ HLW.out.g).mono ?_); rintro e w1 ⟨a1, c1, rfl, HK1, HB1, HF1⟩; have hs1 : _ ∧ _ := ⟨(HB1.out.cell (p := ⟨w.heap.size, 20, none⟩) hgW).trans hH0.1, (HB1.out.cell (p := ⟨w.heap.size, 21, none⟩) hgW).trans hH0.2⟩; have HL1 := Lib.hid (Lies.below HLW.out HB1.out); have hg1 : w.heap.size < w1.heap.size := Nat.lt_of_lt_of_le hgW HB1.out.size))
    refine hK.out _ _ (fun _ => hs1) ?_
    clear hK K
    try simp only [Act.put, List.setIfInBounds_toArray, List.set_cons_zero, List.set_cons_succ]
    refine Ord.wpAnyU_one (i := 5) (by kernel_rfl) rfl (fun K hK => ?_)
    go_simp
    go_wp2_with ((go_at_call 135; (with_reducible refine (CK.out _ _ _ _ rfl HN.out.2 _ HL1.out.w).mono ?_); rintro e w2 ⟨a2, c2, rfl, HK2, HB2, HF2⟩; have hs2 : _ ∧ _ := ⟨(HB2.out.cell (p := ⟨w.heap.size, 20, none⟩) hg1).trans hs1.1, (HB2.out.cell (p := ⟨w.heap.size, 21, none⟩) hg1).trans hs1.2⟩; have HK12 := Lib.hid (HK1.out.below HB2.out); have HS2 : Hid (Stand w2 w.heap.size (c.set i n)) := Stand.below (Stand.below (w := W.drew) HS.out HB1.out) HB2.out; have fz20 := num_frozen HS2.out 20; have fz21 := num_frozen HS2.out 21; have k20 := hs2.1; have k21 := hs2.2))
    refine hK.out _ _ (fun _ => hs2) ?_
    clear hK K
    try simp only [Act.put, List.setIfInBounds_toArray, List.set_cons_zero, List.set_cons_succ]
    refine Ord.wpAnyU_one (i := 6) (by kernel_rfl) rfl (fun K hK => ?_)
    go_simp
    refine hK.out _ _ (fun _ => hs2) ?_
    clear hK K
    try simp only [Act.put, List.setIfInBounds_toArray, List.set_cons_zero, List.set_cons_succ]
    refine Ord.wpAnyU_one (i := 7) (by kernel_rfl) rfl (fun K hK => ?_)
    go_simp
    refine hK.out _ _ (fun h => by cases h) ?_
    clear hK K
    try simp only [Act.put, List.setIfInBounds_toArray, List.set_cons_zero, List.set_cons_succ]
    refine Ord.wpAnyU_one (i := 8) (by kernel_rfl) rfl (fun K hK => ?_)
    go_simp
    refine hK.out _ _ (fun h => by cases h) ?_
    clear hK K
    try simp only [Act.put, List.setIfInBounds_toArray, List.set_cons_zero, List.set_cons_succ]
    refine Ord.wpAnyU_one (i := 9) (by kernel_rfl) rfl (fun K hK => ?_)
    go_simp
    refine hK.out _ _ (fun h => by cases h) ?_
    clear hK K
    try simp only [Act.put, List.setIfInBounds_toArray, List.set_cons_zero, List.set_cons_succ]
    refine Ord.wpAnyU_done (by kernel_rfl) ?_ _
    have HS3 : Hid (Stand ((w2.setCell ⟨w.heap.size, 20, none⟩ (.slice a1 c.gives.length c1)).setCell ⟨w.heap.size, 21, none⟩ (.slice a2 c.wants.length c2)) w.heap.size ((c.set i n).at a1 c1 a2 c2)) := HS2.out.at a1 c1 a2 c2
    have HB4 : Hid (Below w.heap.size w w2) := (below_dN HB.out 1).trans ((below2 HB1.out HB2.out).mono (Nat.le_of_lt hgW))
    have HB3 := Lib.hid ((HB4.out.setCell (p := ⟨w.heap.size, 20, none⟩) (Nat.le_refl _) (.slice a1 c.gives.length c1)).setCell (p := ⟨w.heap.size, 21, none⟩) (Nat.le_refl _) (.slice a2 c.wants.length c2))
    have HZ2 : Hid (((w2.setCell ⟨w.heap.size, 20, none⟩ (.slice a1 c.gives.length c1)).setCell ⟨w.heap.size, 21, none⟩ (.slice a2 c.wants.length c2)).heap[w.heap.size + 1]? = some (.cells zeroC.val 41 (0, 0))) := by
      refine (Below.heap_setCell _ _ _ _ (by show w.heap.size + 1 ≠ w.heap.size; omega)).trans ((Below.heap_setCell _ _ _ _ (by show w.heap.size + 1 ≠ w.heap.size; omega)).trans ?_)
      exact ((below2 HB1.out HB2.out).block _ (Array.getElem?_eq_some_iff.1 HZ.out).1).trans HZ.out
    have HL3 : Hid (Lies ((w2.setCell ⟨w.heap.size, 20, none⟩ (.slice a1 c.gives.length c1)).setCell ⟨w.heap.size, 21, none⟩ (.slice a2 c.wants.length c2)) ((c.set i n).at a1 c1 a2 c2)) := by
      have f1 := HF1.out
      have f2 := HF2.out
      have s1 := HB1.out.size
      exact ⟨Stks.setCell (Stks.setCell HK12.out (fun x hx => by have := f1 x hx; show x.block ≠ w.heap.size; omega) _) (fun x hx => by have := f1 x hx; show x.block ≠ w.heap.size; omega) _,
        Stks.setCell (Stks.setCell HK2.out (fun x hx => by have := f2 x hx; show x.block ≠ w.heap.size; omega) _) (fun x hx => by have := f2 x hx; show x.block ≠ w.heap.size; omega) _⟩
    generalize ((w2.setCell ⟨w.heap.size, 20, none⟩ (.slice a1 c.gives.length c1)).setCell ⟨w.heap.size, 21, none⟩ (.slice a2 c.wants.length c2)) = w3 at *
    go_wp2_with (first
      | (refine load_cmd rfl (.tmp 3) rfl w.heap.size rfl ((c.set i n).at a1 c1 a2 c2) HS3.out ?_)
      | (refine store_cmd rfl (.tmp 6) (.tmp 25) rfl rfl (w.heap.size + 1) ((c.set i n).at a1 c1 a2 c2) zeroC rfl rfl HZ2.out ?_))
    try simp only [Exit.inBlock, Exit.then]
    refine bodyPost_ret (v := .tuple #[.agg ((c.set i n).at a1 c1 a2 c2).val, .bool true]) (ret_cmd rfl _ _ (w.heap.size + 1) ((c.set i n).at a1 c1 a2 c2) _ rfl rfl (setRow_cmd _ HZ2.out)) rfl ⟨(c.set i n).at a1 c1 a2 c2, rfl, ⟨rfl, rfl, rfl, rfl⟩, ?_, ?_⟩
    · have f1 := HF1.out
      have f2 := HF2.out
      have s1 := HB1.out.size
      have s0 : w.heap.size + 1 < W.drew.heap.size := (Array.getElem?_eq_some_iff.1 HZ.out).1
      exact ⟨Stks.setRow HL3.out.g (fun x hx => by have := f1 x hx; omega) _, Stks.setRow HL3.out.w (fun x hx => by have := f2 x hx; omega) _⟩
    · exact below_setRow HB3.out _ (by omega) _
  | none =>
    have HV : Hid (setV c s n = zeroC) := by show _ = _; unfold setV; rw [hp]
    rw [HV.out]
    rw [hp] at CF
    clear hp HV
    unfold at0 at CF
    have HZ : Hid (((w.alloc (.cells c.val 41)).alloc (.cells zeroC.val 41)).heap[w.heap.size + 1]? = some (.cells zeroC.val 41 (0, 0))) := heap_alloc2_new w _ _
    generalize c.val = V at *
    go_enter Tryz.func106, Tryz.ntmps106
    go_wp2_with (first
      | (go_at_call 74; (with_reducible refine (CF.out _ _).mono ?_); rintro e w1 ⟨rfl, rfl⟩)
      | (refine wpList_buildTo rfl 41 _ rfl (some 13) rfl zeroC.val (by as_aux_lemma => kernel_rfl) ?_)
      | (refine store_cmd rfl (.tmp 6) (.tmp 13) rfl rfl (w.heap.size + 1) zeroC zeroC rfl rfl HZ.out ?_))
    try simp only [Exit.inBlock, Exit.then]
    have HB2 := Lib.hid (below_al (below_al (Below.refl w.heap.size w) (.cells V 41)) (.cells zeroC.val 41))
    refine bodyPost_ret (v := .tuple #[.agg zeroC.val, .bool false]) (ret_cmd rfl _ _ (w.heap.size + 1) zeroC _ rfl rfl (setRow_cmd _ HZ.out)) rfl ⟨zeroC, rfl, Eqv.refl _, Lies.zero _, ?_⟩
    exact below_setRow HB2.out _ (by omega) _
end Cmd
end Go.Proofs.YtlhalhilnkneeaaGreatDoor
end
section
namespace Go.Proofs.YtlhalhilnkneeaaGreatDoor
open Go.RowKit Go.Great
namespace Cmd
open Pen (bs)
open In (Strs)
open Rec (below2 below_al below_dN Stk Stks stkVals)
theorem run_load_cmd {o : Oper} {ev : Operand → Value} {w : World} {g : Nat} {c : CmdIn} (x : Operand) (ho : o.op = .load 41 x) (hx : ev x = .pointer (some ⟨g, 0, none⟩)) (hs : Stand w g c) : (execOp ev o).run Tryz.prog w = .ok (.value (.agg c.val)) w := by
  unfold execOp
  simp only [ho, hx, Instr.loadAt, Instr.sureAddr, Sem.run_bind, Sem.run_pure, Result.andThen_ok, run_loadVar_row _ _ _ _ c.val _ _ hs.heap Tryz.underlying41 rfl (size_val c)]
set_option maxRecDepth 100000 in
set_option maxHeartbeats 4000000 in
theorem sameC_any (a b : CmdIn) (w : World) (hab : Eqv a b) (hla : Lies w a) (hlb : Lies w b) (hn : a.gives.length ≤ 100 ∧ a.wants.length ≤ 100) : Calls Tryz.prog 31 #[.agg a.val, .agg b.val] w fun e w' => e = .returned (.bool true) ∧ Below w.heap.size w w' := by
  have HLA := Lib.hid hla
  have HLB := Lib.hid hlb
  have HN := Lib.hid hn
  have HE := Lib.hid hab
  clear hla hlb hn hab
  have CA : Hid (∀ W, Calls Tryz.prog 61 #[.agg a.val] W (GivesN a.num W)) := fun W => all_any a W
  have CB : Hid (∀ W, Calls Tryz.prog 61 #[.agg b.val] W (GivesN a.num W)) := fun W => by rw [HE.out.num]; exact all_any b W
  have CG : Hid (∀ (x y : Option Addr) (c1 c2 : Nat) (l : List Stk) (n1 n2 : Nat), l.length = n1 → l.length = n2 → n1 ≤ 100 → ∀ w, Stks w x l → Stks w y l → Calls Tryz.prog 62 #[.slice x n1 c1, .slice y n2 c2] w fun e w' => e = .returned (.bool true) ∧ Below w.heap.size w w') := fun x y c1 c2 l n1 n2 e1 e2 hl w hx hy => by
    subst e1 e2
    refine (Rec.same_any x y c1 c2 l l (by omega) (by omega) w hx hy).mono ?_
    rintro e w' ⟨rfl, hb⟩
    exact ⟨by rw [decide_eq_true rfl], hb⟩
  have HSA := Lib.hid ((stand_new (w := w) rfl a).below (below_al (Below.refl _ _) (.cells b.val 41)))
  have HSB : Hid (Stand ((w.alloc (.cells a.val 41)).alloc (.cells b.val 41)) (w.heap.size + 1) b) := stand_new (w := w.alloc (.cells a.val 41)) (by simp) b
  obtain ⟨VA, hVA⟩ : ∃ V, Hid (a.val = V) := ⟨_, rfl⟩
  obtain ⟨VB, hVB⟩ : ∃ V, Hid (b.val = V) := ⟨_, rfl⟩
  rw [hVA.out, hVB.out]
  go_enter Tryz.func31, Tryz.ntmps31
  go_wp2
  rw [← hVA.out, ← hVB.out]
  refine wp_named fun W hW => ?_
  have hH0 : Stand W.drew w.heap.size a ∧ Stand W.drew (w.heap.size + 1) b := by rw [hW]; exact ⟨HSA.out, HSB.out⟩
  have HB : Hid (Below w.heap.size w W) := by rw [hW]; exact below_al (below_al (Below.refl _ _) _) _
  clear hW
  refine Ord.wp_region_U (fun W' => Stand W' w.heap.size a ∧ Stand W' (w.heap.size + 1) b) [] (by kernel_rfl) ?_
  have hHeld := hH0
  refine Ord.wpAnyU_take (i := 0) (v := .agg a.val) rfl (by kernel_rfl) (by kernel_rfl) (by kernel_rfl) (by kernel_rfl) (by kernel_rfl) (by kernel_rfl) (by kernel_rfl) (fun _ _ _ h => h) (Or.inl ⟨by rfl, ?_⟩) hHeld ?_
  · exact fun W2 hS2 => run_load_cmd (.tmp 2) rfl rfl hS2.1
  try simp only [Act.put, List.setIfInBounds_toArray, List.set_cons_zero, List.set_cons_succ]
  refine Ord.wpAnyU_take (i := 2) (v := .agg b.val) rfl (by kernel_rfl) (by kernel_rfl) (by kernel_rfl) (by kernel_rfl) (by kernel_rfl) (by kernel_rfl) (by kernel_rfl) (fun _ _ _ h => h) (Or.inl ⟨by rfl, ?_⟩) hHeld ?_
  · exact fun W2 hS2 => run_load_cmd (.tmp 3) rfl rfl hS2.2
  try simp only [Act.put, List.setIfInBounds_toArray, List.set_cons_zero, List.set_cons_succ]
  refine Ord.wpAnyU_one (i := 1) (by kernel_rfl) rfl (fun K hK => ?_)
  go_simp
  go_wp2_with ((go_at_call 61; (with_reducible refine (CA.out _).mono ?_); rintro e w1 ⟨g1, rfl, hg1, HN1, HB1⟩; have hs1 : _ ∧ _ := ⟨hH0.1.below HB1.out, hH0.2.below HB1.out⟩))
  refine hK.out _ _ (fun _ => hs1) ?_
  clear hK K
  try simp only [Act.put, List.setIfInBounds_toArray, List.set_cons_zero, List.set_cons_succ]
  refine Ord.wpAnyU_one (i := 3) (by kernel_rfl) rfl (fun K hK => ?_)
  go_simp
  go_wp2_with ((go_at_call 61; (with_reducible refine (CB.out _).mono ?_); rintro e w2 ⟨g2, rfl, hg2, HN2, HB2⟩; have hs2 : _ ∧ _ := ⟨hs1.1.below HB2.out, hs1.2.below HB2.out⟩))
  refine hK.out _ _ (fun _ => hs2) ?_
  clear hK K
  try simp only [Act.put, List.setIfInBounds_toArray, List.set_cons_zero, List.set_cons_succ]
  refine Ord.wpAnyU_one (i := 4) (by kernel_rfl) rfl (fun K hK => ?_)
  go_simp
  refine hK.out _ _ (fun _ => hs2) ?_
  clear hK K
  try simp only [Act.put, List.setIfInBounds_toArray, List.set_cons_zero, List.set_cons_succ]
  refine Ord.wpAnyU_one (i := 5) (by kernel_rfl) rfl (fun K hK => ?_)
  go_simp
  refine hK.out _ _ (fun _ => hs2) ?_
  clear hK K
  try simp only [Act.put, List.setIfInBounds_toArray, List.set_cons_zero, List.set_cons_succ]
  refine Ord.wpAnyU_done (by kernel_rfl) ?_ _
  have HS2 := Lib.hid hs2
  have HN12 := Lib.hid (HN1.out.below HB2.out)
  have HB3 : Hid (Below w.heap.size w w2) := below2 (below_dN HB.out 1) (below2 HB1.out HB2.out)
  have HL3A := Lib.hid (HLA.out.below HB3.out)
  have HL3B := Lib.hid (HLB.out.below HB3.out)
  clear hs1 hs2 hH0 hHeld
  go_wp2
  go_loopw [7] (fun i wr => ∃ k : Nat, k ≤ 19 ∧ i = .int .i64 k ∧ Hid (Below w2.heap.size w2 wr)) (fun i _ => 19 - (intOf i).toNat)
  case atStart => exact ⟨0, by omega, rfl, Below.refl _ _⟩
  case round =>
    obtain ⟨k, hk, rfl, hb⟩ := hrel
    by_cases hlt : k < 19
    · have cx1 := (HN12.out.below hb.out).cell k hlt
      have cx2 := (HN2.out.below hb.out).cell k hlt
      have hlt1 : (k : Int) < 19 := by omega
      have d1 : decide ((k : Int) < 19) = true := decide_eq_true hlt1
      have hk0 : (0 : Int) ≤ k := by omega
      have n0 : ¬ (k : Int) < 0 := by omega
      generalize a.num k = X at *
      go_wp2
      go_quiet (fail)
      go_wp2
      go_roundw
      case rel => exact ⟨k + 1, by omega, by go_num, below_dN hb.out _⟩
      case measure => simp [intOf]; omega
    · have n1 : ¬ (k : Int) < 19 := by omega
      have d1 : decide ((k : Int) < 19) = false := decide_eq_false n1
      obtain ⟨x0, x20, x21⟩ := (HS2.out.1.below hb.out).three
      obtain ⟨y0, y20, y21⟩ := (HS2.out.2.below hb.out).three
      have HLRA := Lib.hid (HL3A.out.below hb.out)
      have HLRB := Lib.hid (HL3B.out.below hb.out)
      rw [← HE.out.kind] at y0
      go_wp2_with (first
        | (go_at_call 62; (with_reducible refine (CG.out _ _ _ _ a.gives _ _ rfl (by rw [HE.out.gives]) HN.out.1 _ HLRA.out.g (by rw [HE.out.gives]; exact HLRB.out.g)).mono ?_); rintro e w4 ⟨rfl, hb4⟩; have HB4 := Lib.hid hb4; clear hb4; have z21 := (HB4.out.cell (p := ⟨w.heap.size, 21, none⟩) (World.rowIs.lt (HS2.out.1.below hb.out))).trans x21; have z22 := (HB4.out.cell (p := ⟨w.heap.size + 1, 21, none⟩) (World.rowIs.lt (HS2.out.2.below hb.out))).trans y21)
        | (go_at_call 62; (with_reducible refine (CG.out _ _ _ _ a.wants _ _ rfl (by rw [HE.out.wants]) HN.out.2 _ (HLRA.out.below HB4.out).w (by rw [HE.out.wants]; exact (HLRB.out.below HB4.out).w)).mono ?_); rintro e w5 ⟨rfl, hb5⟩; have HB5 := Lib.hid hb5; clear hb5))
      go_ret
      exact ⟨rfl, HB3.out.trans ((below2 hb.out (below2 HB4.out HB5.out)).mono HB3.out.size)⟩
end Cmd
end Go.Proofs.YtlhalhilnkneeaaGreatDoor
end
