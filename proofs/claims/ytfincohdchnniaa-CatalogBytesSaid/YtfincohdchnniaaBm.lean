/- Texts put together: TakH, CatW, CatV. -/
import Derived.Test.YtfincohdchnniaaBl
import Derived.Laws.OwnMore
import Derived.Test.YtfincohdchnniaaBj
import Derived.Test.YtfincohdchnniaaBg
set_option linter.all false
namespace Go.Proofs.Ytfincohdchnniaa
open Go.RowKit
namespace Cat
open Rec (BlueIn Stk Stks Came bchk inB stkVals stks_of_own stkVals_append)
open Pen (bs bs_append uintB uintS doneS below2 below_al below_dN uint_bounds)
theorem own_new {W1 W2 : World} {base : Nat} {e : TypeId} {size n n' : Nat} {v : Value} {xs xs' : List Value} (h1 : W1.ownsRow base e size v n xs) (h2 : W2.ownsRow base e size v n' xs') (i : Nat) (x : Value) : (W2.setCell ⟨W1.heap.size, i, none⟩ x).ownsRow base e size v n' xs' :=
  ownsRow_setCell_other h2 (fun e => absurd (h1.lt _ e).2 (Nat.lt_irrefl _)) x
theorem bl_set {n : Nat} {w W : World} {a : Addr} {x : Value} (h : Below n w W) (hn : n ≤ W.heap.size) (ha : n ≤ a.block) : Below n w (W.setCell a x) :=
  below_grown (o := some a.block) h ⟨rfl, rfl, rfl, by simp, fun k _ hne => Below.heap_setCell _ _ _ _ (fun e => hne (by rw [e]))⟩ hn fun k e => by have := Option.some.inj e; omega
section
variable {T : TypeId} {Q : (Nat → Value) → Left → Prop} {w W W1 W2 W3 : World} {g gc gb : Nat} {f fb fb2 f2 : Nat → Value} {v u v' u' nv nv' : Value} {l : List BlueIn} {ys : List BayIn} {ns : List Stk} {o o' o2 : Left}
theorem TK.alloc (h : TK T Q w g gc f v u l ys o W) (x : Obj) : TK T Q w g gc f v u l ys o (W.alloc x) :=
  ⟨h.rd.alloc x, h.row.alloc x, h.ob.alloc x, fun b hb => World.ownsRow.alloc (h.on b hb) x, h.oy.alloc x, h.res.alloc x, h.fr.alloc h.fr.size x, h.gg, h.ge⟩
theorem TK.setNew (h1 : TK T Q w g gc f v u l ys o W1) (h : TK T Q w g gc f2 v u l ys o2 W2) (i : Nat) (x : Value) : TK T Q w g gc f2 v u l ys o2 (W2.setCell ⟨W1.heap.size, i, none⟩ x) := by
  have l1 := h1.rd.lt
  have l2 := h1.row.lt
  have l3 := h1.res.lt
  exact ⟨h.rd.set (by show W1.heap.size ≠ g; omega) _, h.row.setOther (by show gc ≠ W1.heap.size; omega) _, own_new h1.ob h.ob i x, fun b hb => own_new (h1.on b hb) (h.on b hb) i x, own_new h1.oy h.oy i x, h.res.setOther (by show w.heap.size ≠ W1.heap.size; omega) _, bl_set h.fr h.fr.size (by show _ ≤ W1.heap.size; omega), h.gg, h.ge⟩
/-- One bay more. -/
theorem TK.bay {b : BayIn} (h : TK T Q w g gc f v u l ys o W) (hg : W.grownBy W3 u.ownBlock) (hT : T ≠ 50) (HO : W3.ownsRow w.heap.size 50 4 u' (ys.length + 1) (bayVals ys ++ b.val.toList)) : TK T Q w g gc (fun i => if i = 3 then u' else f i) v u' l (ys ++ [b]) o (W3.setCell ⟨gc, 3, none⟩ u') := by
  obtain ⟨fr0, hr0, _⟩ := h.rd
  have hr : TK T Q w g gc f v u' l (ys ++ [b]) o W3 := ⟨h.rd.grown hg (own_kind h.oy hr0 hT), row_grown h.row hg (own_kind h.oy h.row (by decide)), h.ob.kept hg (own_kinds h.ob h.oy (by decide)), fun b hb => World.ownsRow.kept (h.on b hb) hg (own_kinds (h.on b hb) h.oy (by decide)), by rw [List.length_append, bayVals_snoc]; exact HO, row_grown h.res hg (own_kind h.oy h.res (by decide)), below_grown h.fr hg h.fr.size (fun k e => (h.oy.lt k e).1), h.gg, h.ge⟩
  exact hr.set 3 u'
/-- A blueprint that is being read. -/
structure TB (T : TypeId) (Q : (Nat → Value) → Left → Prop) (w : World) (g gc gb : Nat) (f fb : Nat → Value) (v u nv : Value) (l : List BlueIn) (ys : List BayIn) (ns : List Stk) (o : Left) (W : World) : Prop where
  tk : TK T Q w g gc f v u l ys o W
  rb : W.rowIs gb 41 7 fb
  on : W.ownsRow (gb + 1) 38 2 nv ns.length (stkVals ns)
  hv : ∀ k, v.ownBlock = some k → k < gb
  hl : ∀ b ∈ l, ∀ k, (Value.slice b.addr b.needs.length b.cap).ownBlock = some k → k < gb
  ge : w.heap.size < gb ∧ g < gb ∧ gc < gb
theorem TB.start (h : TK T Q w g gc f v u l ys o W) (a : Int) : TB T Q w g gc W.heap.size f (fun i => if i = 0 then .int .i64 a else zb i) v u (.slice none 0 0) l ys [] o (W.alloc (.cells #[.int .i64 a, .int .i64 0, .int .i64 0, .slice none 0 0, .int .i64 0, .int .i64 0, .int .i64 0] 41)) :=
  ⟨h.alloc _, ⟨_, heap_alloc_new W _, rfl, fun i hi => by
    match i, hi with
    | 0, _ => rfl
    | 1, _ => rfl
    | 2, _ => rfl
    | 3, _ => rfl
    | 4, _ => rfl
    | 5, _ => rfl
    | 6, _ => rfl⟩, World.ownsRow_nil _ _ _ _, fun k e => (h.ob.lt k e).2, fun b hb k e => (World.ownsRow.lt (h.on b hb) k e).2, h.res.lt, h.rd.lt, h.row.lt⟩
theorem TB.call (h : TB T Q w g gc gb f fb v u nv l ys ns o W) (hg : W.grownBy W2 (some g)) (hr : Rd T Q W2 g o') (h1 : T ≠ 41) (h2 : T ≠ 38) (h3 : T ≠ 50) : TB T Q w g gc gb f fb v u nv l ys ns o' W2 :=
  ⟨h.tk.call hg hr h1 h2 h3, row_grown h.rb hg (fun e => by have := Option.some.inj e; have := h.ge; omega), own_rd h.on h.tk.rd h2 hg, h.hv, h.hl, h.ge⟩
theorem TB.alloc (h : TB T Q w g gc gb f fb v u nv l ys ns o W) (x : Obj) : TB T Q w g gc gb f fb v u nv l ys ns o (W.alloc x) :=
  ⟨h.tk.alloc x, h.rb.alloc x, h.on.alloc x, h.hv, h.hl, h.ge⟩
theorem TB.congr (h : TB T Q w g gc gb f fb v u nv l ys ns o W) (e : ∀ i, i < 7 → fb i = fb2 i) : TB T Q w g gc gb f fb2 v u nv l ys ns o W := ⟨h.tk, h.rb.congr e, h.on, h.hv, h.hl, h.ge⟩
theorem TB.setNew (h1 : TB T Q w g gc gb f fb v u nv l ys ns o W1) (h : TB T Q w g gc gb f2 fb2 v u nv l ys ns o2 W2) (i : Nat) (x : Value) : TB T Q w g gc gb f2 fb2 v u nv l ys ns o2 (W2.setCell ⟨W1.heap.size, i, none⟩ x) := by
  have l1 := h1.rb.lt
  exact ⟨h1.tk.setNew h.tk i x, h.rb.setOther (by show gb ≠ W1.heap.size; omega) _, own_new h1.on h.on i x, h.hv, h.hl, h.ge⟩
/-- A cell of the blueprint is set. -/
theorem TB.setb (h : TB T Q w g gc gb f fb v u nv l ys ns o W) (i : Nat) (x : Value) : TB T Q w g gc gb f (fun j => if j = i then x else fb j) v u nv l ys ns o (W.setCell ⟨gb, i, none⟩ x) :=
  have hge := h.ge
  ⟨⟨h.tk.rd.set (by show gb ≠ g; omega) _, h.tk.row.setOther (by show gc ≠ gb; omega) _, ownsRow_setCell_other h.tk.ob (fun e => absurd (h.hv _ e) (Nat.lt_irrefl _)) x, fun b hb => own_set (h.tk.on b hb) h.rb (by decide) i x, own_set h.tk.oy h.rb (by decide) i x, h.tk.res.setOther (by show w.heap.size ≠ gb; omega) _, bl_set h.tk.fr h.tk.fr.size (by show _ ≤ gb; omega), h.tk.gg, h.tk.ge⟩,
   h.rb.set i x, own_set h.on h.rb (by decide) i x, h.hv, h.hl, h.ge⟩
/-- One need more. -/
theorem TB.need {a b : Int} (h : TB T Q w g gc gb f fb v u nv l ys ns o W) (hg : W.grownBy W3 nv.ownBlock) (hT : T ≠ 38) (HO : W3.ownsRow (gb + 1) 38 2 nv' (ns.length + 1) (stkVals ns ++ [.int .i64 a, .int .i64 b])) : TB T Q w g gc gb f (fun j => if j = 3 then nv' else fb j) v u nv' l ys (ns ++ [(a, b)]) o (W3.setCell ⟨gb, 3, none⟩ nv') := by
  obtain ⟨fr0, hr0, _⟩ := h.tk.rd
  have hge := h.ge
  have hlo : ∀ k, nv.ownBlock = some k → gb < k := fun k e => (h.on.lt k e).1
  have hr : TB T Q w g gc gb f fb v u nv' l ys (ns ++ [(a, b)]) o W3 := ⟨⟨h.tk.rd.grown hg (own_kind h.on hr0 hT), row_grown h.tk.row hg (own_kind h.on h.tk.row (by decide)), h.tk.ob.kept hg (own_kinds h.tk.ob h.on (by decide)), fun x hx => World.ownsRow.kept (h.tk.on x hx) hg (by
      cases hb : (Value.slice x.addr x.needs.length x.cap).ownBlock with
      | none => exact .inl rfl
      | some k => exact .inr fun e => by have := h.hl x hx k hb; have := hlo k e.symm; omega), h.tk.oy.kept hg (own_kinds h.tk.oy h.on (by decide)), row_grown h.tk.res hg (own_kind h.on h.tk.res (by decide)), below_grown h.tk.fr hg h.tk.fr.size (fun k e => by have := hlo k e; omega), h.tk.gg, h.tk.ge⟩,
    row_grown h.rb hg (own_kind h.on h.rb (by decide)), by rw [List.length_append, stkVals_append]; exact HO, h.hv, h.hl, h.ge⟩
  exact hr.setb 3 nv'
/-- The blueprint is read. -/
theorem TB.done {b : BlueIn} (h : TB T Q w g gc gb f fb v u (.slice b.addr b.needs.length b.cap) l ys b.needs o W) (hg : W.grownBy W3 v.ownBlock) (hT : T ≠ 41) (HO : W3.ownsRow w.heap.size 41 7 v' (l.length + 1) (blueVals l ++ b.val.toList)) : TK T Q w g gc (fun i => if i = 1 then v' else f i) v' u (l ++ [b]) ys o (W3.setCell ⟨gc, 1, none⟩ v') := by
  obtain ⟨fr0, hr0, _⟩ := h.tk.rd
  have hge := h.ge
  have hr : TK T Q w g gc f v' u (l ++ [b]) ys o W3 := ⟨h.tk.rd.grown hg (own_kind h.tk.ob hr0 hT), row_grown h.tk.row hg (own_kind h.tk.ob h.tk.row (by decide)), by rw [List.length_append, blueVals_snoc]; exact HO, fun x hx => by
      rcases List.mem_append.1 hx with hx | hx
      · exact World.ownsRow.kept (h.tk.on x hx) hg (own_kinds (h.tk.on x hx) h.tk.ob (by decide))
      · rw [List.mem_singleton.1 hx]
        exact World.ownsRow.kept (own_le h.on (by omega)) hg (own_kinds h.on h.tk.ob (by decide)), h.tk.oy.kept hg (own_kinds h.tk.oy h.tk.ob (by decide)), row_grown h.tk.res hg (own_kind h.tk.ob h.tk.res (by decide)), below_grown h.tk.fr hg h.tk.fr.size (fun k e => (h.tk.ob.lt k e).1), h.tk.gg, h.tk.ge⟩
  exact hr.set 1 v'
end
end Cat
end Go.Proofs.Ytfincohdchnniaa
namespace Go.Proofs.Ytfincohdchnniaa
open Go.RowKit
namespace Cat
open Rec (BlueIn Stk Stks Came bchk inB stkVals stks_of_own stkVals_append)
open Pen (bs bs_append uintB uintS doneS below2 below_al below_dN uint_bounds)
/-- A catalogue that is being made. -/
structure CG (w : World) (gc : Nat) (f : Nat → Value) (v u : Value) (l : List BlueIn) (ys : List BayIn) (W : World) : Prop where
  row : W.rowIs gc 27 8 f
  ob : W.ownsRow w.heap.size 41 7 v l.length (blueVals l)
  on : ∀ b ∈ l, NeedRow W w.heap.size b
  oy : W.ownsRow w.heap.size 50 4 u ys.length (bayVals ys)
  fr : Below w.heap.size w W
  ge : w.heap.size ≤ gc
section
variable {w W W' W3 : World} {gc : Nat} {f : Nat → Value} {v u v' : Value} {l : List BlueIn} {ys : List BayIn}
theorem own_bel {base : Nat} {e : TypeId} {size n : Nat} {v : Value} {xs : List Value} (ho : W.ownsRow base e size v n xs) (hb : Below W.heap.size W W') : W'.ownsRow base e size v n xs := ho.kept (row := none) (grw_below2 hb) (by cases hv : v.ownBlock <;> simp)
theorem CG.below (h : CG w gc f v u l ys W) (hb : Below W.heap.size W W') : CG w gc f v u l ys W' :=
  ⟨h.row.of_block (hb.block _ h.row.lt), own_bel h.ob hb, fun b hx => own_bel (h.on b hx) hb, own_bel h.oy hb, h.fr.trans (hb.mono h.fr.size), h.ge⟩
theorem CG.alloc (h : CG w gc f v u l ys W) (o : Obj) : CG w gc f v u l ys (W.alloc o) := h.below ((Below.refl W.heap.size W).alloc (Nat.le_refl _) o)
theorem CG.congr {f2 : Nat → Value} (h : CG w gc f v u l ys W) (e : ∀ i, i < 8 → f i = f2 i) : CG w gc f2 v u l ys W := ⟨h.row.congr e, h.ob, h.on, h.oy, h.fr, h.ge⟩
theorem CG.flat (h : CG w gc f v u l ys W) : CG w gc (c8 (f 0) (f 1) (f 2) (f 3) (f 4) (f 5) (f 6) (f 7)) v u l ys W := ⟨row_c8 h.row, h.ob, h.on, h.oy, h.fr, h.ge⟩
theorem CG.set (h : CG w gc f v u l ys W) (i : Nat) (x : Value) : CG w gc (fun j => if j = i then x else f j) v u l ys (W.setCell ⟨gc, i, none⟩ x) :=
  ⟨h.row.set i x, own_set h.ob h.row (by decide) _ _, fun b hb => own_set (h.on b hb) h.row (by decide) _ _, own_set h.oy h.row (by decide) _ _, below_grown (o := some gc) h.fr ⟨rfl, rfl, rfl, by simp, fun k _ hne => Below.heap_setCell _ _ _ _ (fun e => hne (by rw [e]))⟩ h.fr.size (fun k e => by have := Option.some.inj e; have := h.ge; omega), h.ge⟩
/-- One blueprint more. -/
theorem CG.push {b : BlueIn} (h : CG w gc f v u l ys W) (hb : NeedRow W w.heap.size b) (hg : W.grownBy W3 v.ownBlock) (HO : W3.ownsRow w.heap.size 41 7 v' (l.length + 1) (blueVals l ++ b.val.toList)) : CG w gc (fun i => if i = 1 then v' else f i) v' u (l ++ [b]) ys (W3.setCell ⟨gc, 1, none⟩ v') := by
  have hr : CG w gc f v' u (l ++ [b]) ys W3 := ⟨row_grown h.row hg (own_kind h.ob h.row (by decide)), by rw [List.length_append, blueVals_snoc]; exact HO, fun x hx => by
      rcases List.mem_append.1 hx with hx | hx
      · exact World.ownsRow.kept (h.on x hx) hg (own_kinds (h.on x hx) h.ob (by decide))
      · rw [List.mem_singleton.1 hx]
        exact World.ownsRow.kept hb hg (own_kinds hb h.ob (by decide)), h.oy.kept hg (own_kinds h.oy h.ob (by decide)), below_grown h.fr hg h.fr.size (fun k e => (h.ob.lt k e).1), h.ge⟩
  exact hr.set 1 v'
theorem CG.lies {ba ya : Option Addr} {bc yc : Nat} (h : CG w gc f (.slice ba l.length bc) (.slice ya ys.length yc) l ys W) : Blues W ba l ∧ Bays W ya ys ∧ ∀ i, i < l.length → Stks W (l.getD i nob).addr (l.getD i nob).needs := by
  obtain ⟨a1, a2, a3, a4, e1, e2, h1, h2, h3⟩ := lies_of h.ob h.on h.oy
  cases e1
  cases e2
  exact ⟨h1, h2, h3⟩
end
/-- A row of one's own that is made at once. -/
theorem own_lit {W : World} {g : Nat} (hg : W.heap.size = g) {base : Nat} {e : TypeId} {size n : Nat} {cs : Array Value} (hb : base ≤ g) (hm : n ≤ maxLen) (hs : cs.size = n * size) : (W.alloc (.cells cs e)).ownsRow base e size (.slice (some ⟨g, 0, none⟩) n n) n cs.toList := by
  subst hg
  refine ⟨by simpa using hs, .inr ⟨W.heap.size, n, cs, rfl, hb, heap_alloc_new W _, Nat.le_refl _, hm, hs, ?_⟩⟩
  rw [List.take_of_length_le (by simp [hs])]
/-- The catalogue of three types. -/
def plainF : CatIn := ⟨3, [⟨3, 1, 10, [(1, 2), (2, 1)], none, 0, 0, 0, 5⟩], none, 0, 1, [⟨1, 1, 0, 0⟩], none, 0, 2, 0, 0, 0⟩
/-- The rows of a catalogue that was made. -/
structure OC (B : Nat) (c : CatIn) (W : World) : Prop where
  ob : W.ownsRow B 41 7 (.slice c.baddr c.blues.length c.bcap) c.blues.length (blueVals c.blues)
  on : ∀ b ∈ c.blues, NeedRow W B b
  oy : W.ownsRow B 50 4 (.slice c.yaddr c.bays.length c.ycap) c.bays.length (bayVals c.bays)
theorem OC.below {B : Nat} {c : CatIn} {W W' : World} (h : OC B c W) (hb : Below W.heap.size W W') : OC B c W' := ⟨own_bel h.ob hb, fun b hx => own_bel (h.on b hx) hb, own_bel h.oy hb⟩
theorem OC.lies {B : Nat} {c : CatIn} {W : World} (h : OC B c W) : Lies W c := by
  obtain ⟨a1, a2, a3, a4, e1, e2, h1, h2, h3⟩ := lies_of h.ob h.on h.oy
  cases e1
  cases e2
  exact ⟨h1, h2, h3⟩
set_option maxRecDepth 100000 in
set_option maxHeartbeats 4000000 in
theorem plain_any (w : World) :
    Calls Try.prog 24 #[] w fun e w' => ∃ c : CatIn, e = .returned (.agg c.val) ∧ Hid (flatC c = plainF) ∧ Hid (OC w.heap.size c w') ∧ Hid (Below w.heap.size w w') := by
  go_enter Try.func24, Try.ntmps24
  go_wp2
  try simp only [Exit.inBlock, Exit.then]
  refine bodyPost_ret (v := .agg #[.int .i64 3, .slice (some ⟨w.heap.size + 1 + 1 + 1, 0, none⟩) 1 1, .int .i64 1, .slice (some ⟨w.heap.size + 1 + 1 + 1 + 1, 0, none⟩) 1 1, .int .i64 2, .int .i64 0, .int .i64 0, .int .i64 0]) (results_cell_row rfl _ _ _ 27 _ (0, 0) _ (by rfl) ?_ Try.underlying27 rfl sizeC) rfl ⟨⟨3, [⟨3, 1, 10, [(1, 2), (2, 1)], some ⟨w.heap.size + 1, 0, none⟩, 2, 0, 0, 5⟩], some ⟨w.heap.size + 1 + 1 + 1, 0, none⟩, 1, 1, [⟨1, 1, 0, 0⟩], some ⟨w.heap.size + 1 + 1 + 1 + 1, 0, none⟩, 1, 2, 0, 0, 0⟩, rfl, (show _ = _ from rfl), ⟨?_, ?_, ?_⟩, ?_⟩
  · refine (heap_alloc_old _ _ (by simp; omega)).trans ((heap_alloc_old _ _ (by simp; omega)).trans ((heap_alloc_old _ _ (by simp; omega)).trans ((heap_alloc_old _ _ (by simp)).trans (heap_alloc_new w _))))
  · exact World.ownsRow.alloc (own_lit (by simp) (by omega) (Nat.le_of_ble_eq_true rfl) rfl) _
  · intro b hb
    rw [List.mem_singleton.1 hb]
    exact World.ownsRow.alloc (World.ownsRow.alloc (World.ownsRow.alloc (own_lit (by simp) (by omega) (Nat.le_of_ble_eq_true rfl) rfl) _) _) _
  · exact own_lit (by simp) (by omega) (Nat.le_of_ble_eq_true rfl) rfl
  · exact below_al (below_al (below_al (below_al (below_al (Below.refl _ _) _) _) _) _) _
end Cat
end Go.Proofs.Ytfincohdchnniaa
namespace Go.Proofs.Ytfincohdchnniaa
open Go.RowKit
namespace Cat
open Rec (BlueIn Stk Stks Came bchk inB stkVals stks_of_own stkVals_append)
open Pen (bs bs_append uintB uintS doneS below2 below_al below_dN uint_bounds)
def cv (c : CatIn) : Nat → Value := c8 (.int .i64 c.types) (.slice c.baddr c.blues.length c.bcap) (.int .i64 c.places) (.slice c.yaddr c.bays.length c.ycap) (.int .i64 c.chars) (.int .i64 c.broker) (.int .i64 c.least) (.int .i64 c.sales)
theorem cv_new {w : World} {b : Nat} (hb : w.heap.size = b) (c : CatIn) : (w.alloc (.cells c.val 27)).rowIs b 27 8 (cv c) := by
  subst hb
  exact ⟨_, heap_alloc_new w _, rfl, fun i hi => by
    match i, hi with
    | 0, _ => rfl
    | 1, _ => rfl
    | 2, _ => rfl
    | 3, _ => rfl
    | 4, _ => rfl
    | 5, _ => rfl
    | 6, _ => rfl
    | 7, _ => rfl⟩
theorem cv_cells {w : World} {b : Nat} {c : CatIn} (h : w.rowIs b 27 8 (cv c)) : w.cell? ⟨b, 0, none⟩ = some (.int .i64 c.types) ∧ w.cell? ⟨b, 1, none⟩ = some (.slice c.baddr c.blues.length c.bcap) ∧ w.cell? ⟨b, 2, none⟩ = some (.int .i64 c.places) ∧ w.cell? ⟨b, 3, none⟩ = some (.slice c.yaddr c.bays.length c.ycap) ∧ w.cell? ⟨b, 4, none⟩ = some (.int .i64 c.chars) ∧ w.cell? ⟨b, 5, none⟩ = some (.int .i64 c.broker) ∧ w.cell? ⟨b, 6, none⟩ = some (.int .i64 c.least) ∧ w.cell? ⟨b, 7, none⟩ = some (.int .i64 c.sales) ∧ b < w.heap.size := by
  obtain ⟨h0, h1, h2, h3, h4, h5, h6, h7⟩ := row8 h
  exact ⟨h0, h1, h2, h3, h4, h5, h6, h7, h.lt⟩
theorem makerV_flat (l : List BlueIn) (k : Int) : makerV (l.map flatB) k = makerV l k := by
  unfold makerV
  rw [List.length_map]
  have : (fun i => ((l.map flatB).getD i nob).makes == k) = fun i => (l.getD i nob).makes == k := by
    funext i
    rw [getD_flat]
    rfl
  rw [this]
/-- Three catalogues' boxes. -/
structure AW (w0 : World) (g1 g4 g6 : Nat) (c d r : CatIn) (W : World) : Prop where
  r1 : W.rowIs g1 27 8 (cv c)
  r4 : W.rowIs g4 27 8 (cv d)
  r6 : W.rowIs g6 27 8 (cv r)
  lc : Lies W c
  ld : Lies W d
  lr : Lies W r
  fr : Below w0.heap.size w0 W
theorem AW.below {w0 : World} {g1 g4 g6 : Nat} {c d r : CatIn} {W W' : World} (h : AW w0 g1 g4 g6 c d r W) (hb : Below W.heap.size W W') : AW w0 g1 g4 g6 c d r W' :=
  ⟨h.r1.of_block (hb.block _ h.r1.lt), h.r4.of_block (hb.block _ h.r4.lt), h.r6.of_block (hb.block _ h.r6.lt), h.lc.below hb, h.ld.below hb, h.lr.below hb, below2 h.fr hb⟩
/-- The rows of the catalogue that is made into another one. -/
theorem cg_r {W w4 : World} {r : CatIn} (_hf : flatC r = plainF) (ho : OC W.heap.size r w4) (hb : Below W.heap.size W w4) : CG W w4.heap.size (cv r) (.slice r.baddr r.blues.length r.bcap) (.slice r.yaddr r.bays.length r.ycap) r.blues r.bays (w4.alloc (.cells r.val 27)) :=
  ⟨cv_new rfl r, ho.ob.alloc _, fun b hx => World.ownsRow.alloc (ho.on b hx) _, ho.oy.alloc _, below_al hb _, hb.size⟩
def roundF : CatIn := { plainF with blues := plainF.blues ++ [⟨1, 1, 1, [(3, 1)], none, 0, 0, 0, 1⟩] }
theorem plain_put : putB plainF = [3, 1, 3, 1, 10, 2, 1, 2, 2, 1, 0, 0, 5, 1, 1, 1, 1, 0, 0, 2, 0, 0, 0] := by decide +kernel
theorem plain_chk : chkC plainF = 0 := by decide +kernel
theorem round_chk : chkC roundF = 9 := by decide +kernel
theorem plain_ok : Small plainF ∧ Nums plainF := by
  have h := takeV_ok (putB plainF)
  rw [take_put plain_chk] at h
  exact h
theorem round_ok : Small roundF ∧ Nums roundF := by
  refine ⟨⟨by decide, by decide, ?_⟩, ⟨?_, ?_, ?_, ?_, ?_, ?_, ?_, ?_⟩⟩
  · intro i hi
    match i, hi with
    | 0, _ => decide
    | 1, _ => decide
  · exact in64_of (by decide)
  · exact in64_of (by decide)
  · exact in64_of (by decide)
  · exact in64_of (by decide)
  · exact in64_of (by decide)
  · exact in64_of (by decide)
  · intro i hi
    match i, hi with
    | 0, _ =>
      refine ⟨in64_of (by decide), in64_of (by decide), in64_of (by decide), in64_of (by decide), in64_of (by decide), in64_of (by decide), fun k hk => ?_⟩
      match k, hk with
      | 0, _ => exact ⟨in64_of (by decide), in64_of (by decide)⟩
      | 1, _ => exact ⟨in64_of (by decide), in64_of (by decide)⟩
    | 1, _ =>
      refine ⟨in64_of (by decide), in64_of (by decide), in64_of (by decide), in64_of (by decide), in64_of (by decide), in64_of (by decide), fun k hk => ?_⟩
      match k, hk with
      | 0, _ => exact ⟨in64_of (by decide), in64_of (by decide)⟩
  · intro i hi
    match i, hi with
    | 0, _ => exact ⟨in64_of (by decide), in64_of (by decide), in64_of (by decide), in64_of (by decide)⟩
theorem putV_plain {c : CatIn} (h : flatC c = plainF) : putV c = ([3, 1, 3, 1, 10, 2, 1, 2, 2, 1, 0, 0, 5, 1, 1, 1, 1, 0, 0, 2, 0, 0, 0], 0) := by
  unfold putV
  rw [← chkC_flat, h, plain_chk, if_pos rfl, ← putB_flat, h, plain_put]
theorem cam_plain {c : CatIn} {W : World} (h : flatC c = plainF) (hl : Lies W c) : Cam W c := ⟨hl, small_flat (by rw [h]; exact plain_ok.1), nums_flat (by rw [h]; exact plain_ok.2)⟩
theorem cam_round {c : CatIn} {W : World} (h : flatC c = roundF) (hl : Lies W c) : Cam W c := ⟨hl, small_flat (by rw [h]; exact round_ok.1), nums_flat (by rw [h]; exact round_ok.2)⟩
theorem blues_plain {c : CatIn} (h : flatC c = plainF) : c.blues.length = 1 ∧ atB c.blues 2 = (nob, 3) ∧ makerV c.blues 3 = 1 ∧ makerV c.blues 1 = 0 := by
  have h1 : c.blues.map flatB = plainF.blues := congrArg CatIn.blues h
  have h2 : c.blues.length = 1 := by have := congrArg List.length h1; simpa [plainF] using this
  refine ⟨h2, ?_, ?_, ?_⟩
  · unfold atB
    rw [h2]
    rfl
  · rw [← makerV_flat, h1]; decide +kernel
  · rw [← makerV_flat, h1]; decide +kernel
/-- Behind the third catalogue's new blueprint. -/
theorem aw5 {w0 w1 w2 w3 w4 W4 w5 : World} {c d r : CatIn} {b : BlueIn} {gg cap9 B : Nat} (HO1 : OC B c w1) (HB1 : Below w0.heap.size w0 w1) (HB2 : Below (w1.alloc (.cells c.val 27)).heap.size (w1.alloc (.cells c.val 27)) w2) (HL3 : Lies w3 d) (HB3 : Below w2.heap.size w2 w3) (CG4 : CG (w3.alloc (.cells d.val 27)) w4.heap.size (cv r) (.slice r.baddr r.blues.length r.bcap) (.slice r.yaddr r.bays.length r.ycap) r.blues r.bays W4) (hnd : NeedRow W4 (w3.alloc (.cells d.val 27)).heap.size b) (HG5 : W4.grownBy w5 (Value.slice r.baddr r.blues.length r.bcap).ownBlock)
    (HOW : w5.ownsRow (w3.alloc (.cells d.val 27)).heap.size 41 7 (.slice (some ⟨gg, 0, none⟩) (r.blues.length + 1) cap9) (r.blues.length + 1) (blueVals r.blues ++ b.val.toList)) :
    AW w0 w1.heap.size w3.heap.size w4.heap.size c d { r with blues := r.blues ++ [b], baddr := some ⟨gg, 0, none⟩, bcap := cap9 } (w5.setCell ⟨w4.heap.size, 1, none⟩ (.slice (some ⟨gg, 0, none⟩) (r.blues.length + 1) cap9)) := by
  have h5 := CG4.push hnd HG5 HOW
  have hl3 : Below w3.heap.size w3 (w3.alloc (.cells d.val 27)) := (Below.refl _ _).alloc (Nat.le_refl _) _
  have b1 := below2 (below2 (below2 HB2 HB3) hl3) h5.fr
  have b3 := below2 hl3 h5.fr
  have hl1 : Below w1.heap.size w1 (w1.alloc (.cells c.val 27)) := (Below.refl _ _).alloc (Nat.le_refl _) _
  refine ⟨(cv_new rfl c).of_block (b1.block _ (by simp)), (cv_new rfl d).of_block (h5.fr.block _ (by simp)), h5.row.congr fun i hi => ?_, HO1.lies.below (below2 hl1 b1), HL3.below b3, ?_, below2 HB1 (below2 hl1 b1)⟩
  · match i, hi with
    | 0, _ => rfl
    | 1, _ => show Value.slice _ _ _ = Value.slice _ _ _; rw [List.length_append]; rfl
    | 2, _ => rfl
    | 3, _ => rfl
    | 4, _ => rfl
    | 5, _ => rfl
    | 6, _ => rfl
    | 7, _ => rfl
  · obtain ⟨a1, a2, a3, a4, e1, e2, h1, h2, h3⟩ := lies_of h5.ob h5.on h5.oy
    cases e2
    injection e1 with e3 e4 e5
    subst e3
    exact ⟨h1, h2, h3⟩
theorem flat_round {r : CatIn} {b : BlueIn} {a : Option Addr} {k : Nat} (h : flatC r = plainF) (hb : flatB b = ⟨1, 1, 1, [(3, 1)], none, 0, 0, 0, 1⟩) : flatC { r with blues := r.blues ++ [b], baddr := a, bcap := k } = roundF := by
  have h7 := congrArg CatIn.blues h
  simp only [flatC] at h7
  have h1 := congrArg CatIn.types h
  have h2 := congrArg CatIn.places h
  have h3 := congrArg CatIn.chars h
  have h4 := congrArg CatIn.broker h
  have h5 := congrArg CatIn.least h
  have h6 := congrArg CatIn.sales h
  have h8 := congrArg CatIn.bays h
  simp only [flatC] at h1 h2 h3 h4 h5 h6 h8
  show (⟨r.types, (r.blues ++ [b]).map flatB, none, 0, r.places, r.bays, none, 0, r.chars, r.broker, r.least, r.sales⟩ : CatIn) = _
  rw [List.map_append, h7, h1, h2, h3, h4, h5, h6, h8, List.map_cons, hb]
  rfl
set_option maxRecDepth 100000 in
set_option maxHeartbeats 16000000 in
theorem awake_any (w : World) : Calls Try.prog 7 #[] w fun e w' => e = .returned (.bool true) ∧ Below w.heap.size w w' := by
  have CT : Hid (∀ W, Calls Try.prog 10 #[.string { data := #[3, 1, 3, 1, 10, 2, 1, 2, 2, 1, 0, 0, 5, 1, 1, 1, 1, 0, 0, 2, 0, 0, 0] }] W fun e w' => ∃ d : CatIn, e = .returned (.tuple #[.agg d.val, .int .i64 0]) ∧ Hid (flatC d = plainF) ∧ Hid (Lies w' d) ∧ Hid (Below W.heap.size W w')) := fun W => by
    have h := take_any { data := #[3, 1, 3, 1, 10, 2, 1, 2, 2, 1, 0, 0, 5, 1, 1, 1, 1, 0, 0, 2, 0, 0, 0] } (by decide) W
    have ht : takeV ({ data := #[3, 1, 3, 1, 10, 2, 1, 2, 2, 1, 0, 0, 5, 1, 1, 1, 1, 0, 0, 2, 0, 0, 0] } : ByteArray).data.toList = (plainF, 0) := by
      show takeV [3, 1, 3, 1, 10, 2, 1, 2, 2, 1, 0, 0, 5, 1, 1, 1, 1, 0, 0, 2, 0, 0, 0] = _
      rw [← plain_put]
      exact take_put plain_chk
    rw [ht] at h
    exact h
  go_enter Try.func7, Try.ntmps7
  go_wp2_with (first
    | (go_at_call 24; (with_reducible refine (plain_any w).mono ?_); rintro e w1 ⟨c, rfl, HF1, HO1, HB1⟩; have CP : Hid (Calls Try.prog 8 #[.agg #[.int .i64 c.types, .slice c.baddr c.blues.length c.bcap, .int .i64 c.places, .slice c.yaddr c.bays.length c.ycap, .int .i64 c.chars, .int .i64 c.broker, .int .i64 c.least, .int .i64 c.sales]] (w1.alloc (.cells #[.int .i64 c.types, .slice c.baddr c.blues.length c.bcap, .int .i64 c.places, .slice c.yaddr c.bays.length c.ycap, .int .i64 c.chars, .int .i64 c.broker, .int .i64 c.least, .int .i64 c.sales] 27)) fun e w' => e = .returned (.tuple #[.string { data := #[3, 1, 3, 1, 10, 2, 1, 2, 2, 1, 0, 0, 5, 1, 1, 1, 1, 0, 0, 2, 0, 0, 0] }, .int .i64 0]) ∧ Below (w1.alloc (.cells #[.int .i64 c.types, .slice c.baddr c.blues.length c.bcap, .int .i64 c.places, .slice c.yaddr c.bays.length c.ycap, .int .i64 c.chars, .int .i64 c.broker, .int .i64 c.least, .int .i64 c.sales] 27)).heap.size (w1.alloc (.cells #[.int .i64 c.types, .slice c.baddr c.blues.length c.bcap, .int .i64 c.places, .slice c.yaddr c.bays.length c.ycap, .int .i64 c.chars, .int .i64 c.broker, .int .i64 c.least, .int .i64 c.sales] 27)) w') := (by have h := Put_any c (w1.alloc (.cells c.val 27)) (cam_plain HF1.out (HO1.out.lies.below ((Below.refl _ _).alloc (Nat.le_refl _) _))); rw [putV_plain HF1.out] at h; exact h); unfold CatIn.val)
    | (go_at_call 8; (with_reducible refine CP.out.mono ?_); rintro e w2 ⟨rfl, hb2⟩; have HB2 := Lib.hid hb2; clear hb2)
    | (go_at_call 10; (with_reducible refine (CT.out _).mono ?_); rintro e w3 ⟨d, rfl, HF3, HL3, HB3⟩; unfold CatIn.val)
    | (go_at_call 24; (with_reducible refine (plain_any _).mono ?_); rintro e w4 ⟨r, rfl, HF4, HO4, HB4⟩; have CG4 := Lib.hid ((cg_r HF4.out HO4.out HB4.out).alloc (.cells #[.int .i64 3, .int .i64 1] 38)); have HR1 := Lib.hid (blues_plain HF4.out).1; obtain ⟨i0, hi, hz0, hz1, hz2⟩ := info_parts blueinfo; unfold CatIn.val)
    | (at_builtin; go_must (refine wpList_append_lies _ rfl (.tmp 22) (.tmp 26) 22 rfl _ 41 i0 _ 7 72 Try.underlying22 hi hz0 hz1 hz2 rfl (by omega) (.slice r.baddr r.blues.length r.bcap) r.blues.length _ rfl (((HO4.out.ob.alloc _).alloc _).alloc _) ⟨w4.heap.size + 1 + 1, 0, none⟩ 1 1 [.int .i64 1, .int .i64 1, .int .i64 1, .slice (some ⟨w4.heap.size + 1, 0, none⟩) 1 1, .int .i64 0, .int .i64 0, .int .i64 1] rfl (by rfl) (World.news_of_block (cs := #[.int .i64 1, .int .i64 1, .int .i64 1, .slice (some ⟨w4.heap.size + 1, 0, none⟩) 1 1, .int .i64 0, .int .i64 0, .int .i64 1]) (t := 41) (fr := (0, 0)) (heap_at (by simp) _)) (by simp [Value.oneCell']) (by omega) (by rw [HR1.out]; exact Nat.le_of_ble_eq_true rfl) (by rw [HR1.out]; decide) (by have := HB4.out.size; (try simp at this); (try simp); omega) (w4.heap.size + 1 + 1 + 1) (by simp) ?_; intro gg cap9 w5 hown hgr hat hlt; have HOW := Lib.hid hown; have HG5 := Lib.hid (grw_al _ hgr); clear hown hgr hat hlt; have hro := row_grown CG4.out.row HG5.out (own_kind CG4.out.ob CG4.out.row (by decide)); have c1 := hro.cell (i := 1) (by decide); have f1 := hro.frozen 1; have hnd : NeedRow ((w4.alloc (.cells r.val 27)).alloc (.cells #[.int .i64 3, .int .i64 1] 38)) (w3.alloc (.cells d.val 27)).heap.size (⟨1, 1, 1, [(3, 1)], some ⟨w4.heap.size + 1, 0, none⟩, 1, 0, 0, 1⟩ : BlueIn) := own_lit (by simp) (by have := HB4.out.size; (try simp at this); (try simp); omega) (Nat.le_of_ble_eq_true rfl) rfl; have A5 := Lib.hid (aw5 HO1.out HB1.out HB2.out HL3.out HB3.out CG4.out hnd HG5.out HOW.out); (obtain ⟨ap0, ap1, ap2, ap3, ap4, ap5, ap6, ap7, ap8⟩ := cv_cells A5.out.r1)))
    | (go_at_call 16; (have CX : Hid (Calls Try.prog 16 #[.agg #[.int .i64 c.types, .slice c.baddr c.blues.length c.bcap, .int .i64 c.places, .slice c.yaddr c.bays.length c.ycap, .int .i64 c.chars, .int .i64 c.broker, .int .i64 c.least, .int .i64 c.sales], .int .i64 2] (w5.setCell ⟨w4.heap.size, 1, none⟩ (.slice (some ⟨gg, 0, none⟩) (r.blues.length + 1) cap9)) fun e w' => e = .returned (.tuple #[.agg #[.int .i64 0, .int .i64 0, .int .i64 0, .slice none 0 0, .int .i64 0, .int .i64 0, .int .i64 0], .int .i64 3]) ∧ Below (w5.setCell ⟨w4.heap.size, 1, none⟩ (.slice (some ⟨gg, 0, none⟩) (r.blues.length + 1) cap9)).heap.size (w5.setCell ⟨w4.heap.size, 1, none⟩ (.slice (some ⟨gg, 0, none⟩) (r.blues.length + 1) cap9)) w') := (by have h := Blue_any c 2 _ (cam_plain HF1.out A5.out.lc); rw [(blues_plain HF1.out).2.1] at h; exact h)); (with_reducible refine CX.out.mono ?_); rintro e w6 ⟨rfl, hb6⟩; have A6 := Lib.hid (A5.out.below hb6); clear hb6 CX; clear ap0 ap1 ap2 ap3 ap4 ap5 ap6 ap7 ap8; (obtain ⟨bp0, bp1, bp2, bp3, bp4, bp5, bp6, bp7, bp8⟩ := cv_cells A6.out.r1); (obtain ⟨bq0, bq1, bq2, bq3, bq4, bq5, bq6, bq7, bq8⟩ := cv_cells A6.out.r4); (obtain ⟨bt0, bt1, bt2, bt3, bt4, bt5, bt6, bt7, bt8⟩ := cv_cells A6.out.r6))
    | (go_at_call 12; (have CX : Hid (Calls Try.prog 12 #[.agg #[.int .i64 c.types, .slice c.baddr c.blues.length c.bcap, .int .i64 c.places, .slice c.yaddr c.bays.length c.ycap, .int .i64 c.chars, .int .i64 c.broker, .int .i64 c.least, .int .i64 c.sales], .agg #[.int .i64 d.types, .slice d.baddr d.blues.length d.bcap, .int .i64 d.places, .slice d.yaddr d.bays.length d.ycap, .int .i64 d.chars, .int .i64 d.broker, .int .i64 d.least, .int .i64 d.sales]] (w6.alloc (.cells #[.int .i64 0, .int .i64 0, .int .i64 0, .slice none 0 0, .int .i64 0, .int .i64 0, .int .i64 0] 41)) fun e w' => e = .returned (.bool true) ∧ Below (w6.alloc (.cells #[.int .i64 0, .int .i64 0, .int .i64 0, .slice none 0 0, .int .i64 0, .int .i64 0, .int .i64 0] 41)).heap.size (w6.alloc (.cells #[.int .i64 0, .int .i64 0, .int .i64 0, .slice none 0 0, .int .i64 0, .int .i64 0, .int .i64 0] 41)) w') := (by have h := Same_any c d _ (cam_plain HF1.out (A6.out.below ((Below.refl w6.heap.size w6).alloc (Nat.le_refl _) (.cells #[.int .i64 0, .int .i64 0, .int .i64 0, .slice none 0 0, .int .i64 0, .int .i64 0, .int .i64 0] 41))).lc) (cam_plain HF3.out (A6.out.below ((Below.refl w6.heap.size w6).alloc (Nat.le_refl _) (.cells #[.int .i64 0, .int .i64 0, .int .i64 0, .slice none 0 0, .int .i64 0, .int .i64 0, .int .i64 0] 41))).ld); rw [sameC_flat (HF1.out.trans HF3.out.symm)] at h; exact h)); (with_reducible refine CX.out.mono ?_); rintro e w7 ⟨rfl, hb7⟩; have A7 := Lib.hid ((A6.out.below ((Below.refl w6.heap.size w6).alloc (Nat.le_refl _) (.cells #[.int .i64 0, .int .i64 0, .int .i64 0, .slice none 0 0, .int .i64 0, .int .i64 0, .int .i64 0] 41))).below hb7); clear hb7 CX; clear bp0 bp1 bp2 bp3 bp4 bp5 bp6 bp7 bp8 bq0 bq1 bq2 bq3 bq4 bq5 bq6 bq7 bq8 bt0 bt1 bt2 bt3 bt4 bt5 bt6 bt7 bt8; (obtain ⟨cp0, cp1, cp2, cp3, cp4, cp5, cp6, cp7, cp8⟩ := cv_cells A7.out.r1); (obtain ⟨cq0, cq1, cq2, cq3, cq4, cq5, cq6, cq7, cq8⟩ := cv_cells A7.out.r4); (obtain ⟨ct0, ct1, ct2, ct3, ct4, ct5, ct6, ct7, ct8⟩ := cv_cells A7.out.r6))
    | (go_at_call 13; (have CX : Hid (Calls Try.prog 13 #[.agg #[.int .i64 r.types, .slice (some ⟨gg, 0, none⟩) (r.blues.length + 1) cap9, .int .i64 r.places, .slice r.yaddr r.bays.length r.ycap, .int .i64 r.chars, .int .i64 r.broker, .int .i64 r.least, .int .i64 r.sales]] w7 fun e w' => e = .returned (.int .i64 9) ∧ Below w7.heap.size w7 w') := (by have h := Check_any ({ r with blues := r.blues ++ [(⟨1, 1, 1, [(3, 1)], some ⟨w4.heap.size + 1, 0, none⟩, 1, 0, 0, 1⟩ : BlueIn)], baddr := some ⟨gg, 0, none⟩, bcap := cap9 } : CatIn) _ (cam_round (flat_round HF4.out rfl) A7.out.lr); rw [← chkC_flat, flat_round HF4.out rfl, round_chk] at h; rw [show CatIn.val ({ r with blues := r.blues ++ [(⟨1, 1, 1, [(3, 1)], some ⟨w4.heap.size + 1, 0, none⟩, 1, 0, 0, 1⟩ : BlueIn)], baddr := some ⟨gg, 0, none⟩, bcap := cap9 } : CatIn) = #[.int .i64 r.types, .slice (some ⟨gg, 0, none⟩) (r.blues.length + 1) cap9, .int .i64 r.places, .slice r.yaddr r.bays.length r.ycap, .int .i64 r.chars, .int .i64 r.broker, .int .i64 r.least, .int .i64 r.sales] from by unfold CatIn.val; simp] at h; exact h)); (with_reducible refine CX.out.mono ?_); rintro e w8 ⟨rfl, hb8⟩; have A8 := Lib.hid (A7.out.below hb8); clear hb8 CX; clear cp0 cp1 cp2 cp3 cp4 cp5 cp6 cp7 cp8 cq0 cq1 cq2 cq3 cq4 cq5 cq6 cq7 cq8 ct0 ct1 ct2 ct3 ct4 ct5 ct6 ct7 ct8; (obtain ⟨dp0, dp1, dp2, dp3, dp4, dp5, dp6, dp7, dp8⟩ := cv_cells A8.out.r1); (obtain ⟨dq0, dq1, dq2, dq3, dq4, dq5, dq6, dq7, dq8⟩ := cv_cells A8.out.r4); (obtain ⟨dt0, dt1, dt2, dt3, dt4, dt5, dt6, dt7, dt8⟩ := cv_cells A8.out.r6))
    | (go_at_call 21; (have CX : Hid (Calls Try.prog 21 #[.agg #[.int .i64 c.types, .slice c.baddr c.blues.length c.bcap, .int .i64 c.places, .slice c.yaddr c.bays.length c.ycap, .int .i64 c.chars, .int .i64 c.broker, .int .i64 c.least, .int .i64 c.sales], .int .i64 3] w8 fun e w' => e = .returned (.int .i64 1) ∧ Below w8.heap.size w8 w') := (by have h := Maker_any c 3 _ (cam_plain HF1.out A8.out.lc); rw [(blues_plain HF1.out).2.2.1] at h; exact h)); (with_reducible refine CX.out.mono ?_); rintro e w9 ⟨rfl, hb9⟩; have A9 := Lib.hid (A8.out.below hb9); clear hb9 CX; clear dp0 dp1 dp2 dp3 dp4 dp5 dp6 dp7 dp8 dq0 dq1 dq2 dq3 dq4 dq5 dq6 dq7 dq8 dt0 dt1 dt2 dt3 dt4 dt5 dt6 dt7 dt8; (obtain ⟨ep0, ep1, ep2, ep3, ep4, ep5, ep6, ep7, ep8⟩ := cv_cells A9.out.r1); (obtain ⟨eq0, eq1, eq2, eq3, eq4, eq5, eq6, eq7, eq8⟩ := cv_cells A9.out.r4); (obtain ⟨et0, et1, et2, et3, et4, et5, et6, et7, et8⟩ := cv_cells A9.out.r6))
    | (go_at_call 21; (have CX : Hid (Calls Try.prog 21 #[.agg #[.int .i64 c.types, .slice c.baddr c.blues.length c.bcap, .int .i64 c.places, .slice c.yaddr c.bays.length c.ycap, .int .i64 c.chars, .int .i64 c.broker, .int .i64 c.least, .int .i64 c.sales], .int .i64 1] w9 fun e w' => e = .returned (.int .i64 0) ∧ Below w9.heap.size w9 w') := (by have h := Maker_any c 1 _ (cam_plain HF1.out A9.out.lc); rw [(blues_plain HF1.out).2.2.2] at h; exact h)); (with_reducible refine CX.out.mono ?_); rintro e w10 ⟨rfl, hb10⟩; have A10 := Lib.hid (A9.out.below hb10); clear hb10 CX))
  go_ret
  exact ⟨rfl, A10.out.fr⟩
end Cat
end Go.Proofs.Ytfincohdchnniaa
