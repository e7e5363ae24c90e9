/- A reply that stands in a block. -/
import Derived.Test.YtmaddebfoefckaaDoorRepI
import Derived.Test.YtmaddebfoefckaaDoorRdA
import Derived.Test.YtmaddebfoefckaaDoorOrdV
import Derived.Test.YtmaddebfoefckaaDoorShelf
import Derived.Test.YtmaddebfoefckaaDoorIn
import Derived.Test.YtmaddebfoefckaaDoorOwn
import Derived.Great.Walk
import Derived.Lib.Hide
import Derived.BigQuiet
import Derived.Lib.SlicesS
import Derived.Lib.Fields
set_option linter.unusedSimpArgs false
set_option linter.unusedVariables false
namespace Go.Proofs.YtmaddebfoefckaaDoor
open Go.RowKit Go.Great
namespace Rep
open Pen (bs bs_append uintB intB I64 intS uintS doneS)
def RepIn.cell (r : RepIn) (i : Nat) : Value := if i = 0 then .int .i64 r.err else if i = 1 then .int .i64 r.id else if i = 2 then .int .i64 r.n else if i = 3 then .int .i64 r.st else .int .i64 r.ti
theorem val_get (r : RepIn) (i : Nat) (hi : i < 5) : r.val[i]? = some (r.cell i) := by
  match i, hi with
  | 0, _ => rfl
  | 1, _ => rfl
  | 2, _ => rfl
  | 3, _ => rfl
  | 4, _ => rfl
  | n + 5, h => omega
/-- A reply that stands in a block. -/
def Rp (w : World) (g : Nat) (r : RepIn) : Prop := w.rowIs g 24 5 r.cell
theorem rp_new {w : World} {g : Nat} (hg : w.heap.size = g) (r : RepIn) : Rp (w.alloc (.cells r.val 24)) g r := by
  subst hg
  exact World.rowIs_alloc w r.val 24 r.cell fun i hi => val_get r i hi
theorem Rp.heap {w : World} {g : Nat} {r : RepIn} (h : Rp w g r) : w.heap[g]? = some (.cells r.val 24 (0, 0)) := by
  obtain ⟨cs, hs, hg, hc⟩ := h
  rw [hs]
  have e : cs = r.val := by
    apply Array.ext_getElem?
    intro i
    by_cases hi : i < 5
    · rw [hc i hi, val_get r i hi]
    · rw [Array.getElem?_eq_none (by omega), Array.getElem?_eq_none (by show 5 ≤ i; omega)]
  rw [e]
theorem rp_of_heap {w : World} {g : Nat} {r : RepIn} (h : w.heap[g]? = some (.cells r.val 24 (0, 0))) : Rp w g r := ⟨r.val, h, rfl, fun i hi => val_get r i hi⟩
theorem Rp.below {w w' : World} {g : Nat} {r : RepIn} (h : Rp w g r) (hb : Below w.heap.size w w') : Rp w' g r := World.rowIs.of_block h (hb.block g (World.rowIs.lt h))
theorem Rp.drew {w : World} {g : Nat} {r : RepIn} (h : Rp w g r) : Rp w.drew g r := World.rowIs.drew h
theorem Rp.five {w : World} {g : Nat} {r : RepIn} (h : Rp w g r) : w.cell? ⟨g, 0, none⟩ = some (.int .i64 r.err) ∧ w.cell? ⟨g, 1, none⟩ = some (.int .i64 r.id) ∧ w.cell? ⟨g, 2, none⟩ = some (.int .i64 r.n) ∧ w.cell? ⟨g, 3, none⟩ = some (.int .i64 r.st) ∧ w.cell? ⟨g, 4, none⟩ = some (.int .i64 r.ti) :=
  ⟨World.rowIs.cell h (i := 0) (by decide), World.rowIs.cell h (i := 1) (by decide), World.rowIs.cell h (i := 2) (by decide), World.rowIs.cell h (i := 3) (by decide), World.rowIs.cell h (i := 4) (by decide)⟩
theorem size_val (r : RepIn) : (Tryd.prog.info? 24).map (·.size) = some r.val.size := by kernel_rfl
theorem load_rep {ops : Array Oper} {rest : List Oper} {o : Oper} {a : Act} {w : World} {Q : Exit → Act → World → Prop} (hgd : o.guard = none) (x : Operand) (ho : o.op = .load 24 x)
    (g : Nat) (hx : a.eval x = .pointer (some ⟨g, 0, none⟩)) (r : RepIn) (hs : Rp w g r) (h : wpList Tryd.prog ops Q rest (a.put o.dst (.agg r.val)) w) : wpList Tryd.prog ops Q (o :: rest) a w :=
  wpList_load_row hgd 24 x ho g hx 24 r.val (0, 0) _ hs.heap Tryd.underlying24 rfl (size_val r) h
theorem run_load_rep {o : Oper} {ev : Operand → Value} {w : World} {g : Nat} {r : RepIn} (x : Operand) (ho : o.op = .load 24 x) (hx : ev x = .pointer (some ⟨g, 0, none⟩)) (hs : Rp w g r) : (execOp ev o).run Tryd.prog w = .ok (.value (.agg r.val)) w := by
  unfold execOp
  simp only [ho, hx, Instr.loadAt, Instr.sureAddr, Sem.run_bind, Sem.run_pure, Result.andThen_ok, run_loadVar_row _ _ _ _ r.val _ _ hs.heap Tryd.underlying24 rfl (size_val r)]
theorem store_rep {ops : Array Oper} {rest : List Oper} {o : Oper} {a : Act} {w : World} {Q : Exit → Act → World → Prop} (hgd : o.guard = none) (x y : Operand) (ho : o.op = .store 24 x y) (hd : o.dst = none)
    (g : Nat) (c c0 : RepIn) (hx : a.eval x = .pointer (some ⟨g, 0, none⟩)) (hy : a.eval y = .agg c.val) (hg : w.heap[g]? = some (.cells c0.val 24 (0, 0)))
    (h : wpList Tryd.prog ops Q rest a (w.setRow g c.val)) : wpList Tryd.prog ops Q (o :: rest) a w :=
  wpList_store_rowTo hgd 24 x y ho hd g c.val hx hy 24 c0.val hg (size_val c) rfl (by simp [RepIn.val, Value.oneCell']) h
theorem setRow_rep {w : World} {g : Nat} (c : RepIn) {c0 : RepIn} (hg : w.heap[g]? = some (.cells c0.val 24 (0, 0))) : (w.setRow g c.val).heap[g]? = some (.cells c.val 24 (0, 0)) := setRow_heap w g c0.val c.val _ _ hg
theorem below_setRow {k : Nat} {a b : World} (h : Below k a b) (g : Nat) (hg : k ≤ g) (cs : Array Value) : Below k a (b.setRow g cs) := by
  refine ⟨h.os, h.tape, h.output, ?_, fun j hj => ?_⟩
  · have := h.size
    simpa [World.setRow] using this
  · rw [← h.block j hj]
    simp [World.setRow, Array.getElem?_modify]
    omega
theorem ret_rep {fn : Func} {p q : Tmp} (h : fn.results = #[.cell p 24, ResultVar.tmp q]) (tmps : Array Value) (w : World) (g : Nat) (c : RepIn) (b : Value)
    (hp : tmps.getD p undef = .pointer (some ⟨g, 0, none⟩)) (hq : tmps.getD q undef = b) (hg : w.heap[g]? = some (.cells c.val 24 (0, 0))) :
    (results fn tmps).run Tryd.prog w = .ok (.tuple #[.agg c.val, b]) w := by
  have hp' : tmps[p]?.getD undef = .pointer (some ⟨g, 0, none⟩) := by simpa using hp
  have hq' : tmps[q]?.getD undef = b := by simpa using hq
  rw [results_cell_tmp h]
  simp [hp', hq', asAddr, run_loadVar_row _ _ _ _ c.val _ _ hg Tryd.underlying24 rfl (size_val c)]
theorem wp_named {P : Program} {c : Code} {Q : Exit → Act → World → Prop} {a : Act} {w : World} (h : ∀ W, W = w → c.wp P Q a W) : c.wp P Q a w := h w rfl
theorem wpl_named {P : Program} {ops : Array Oper} {Q : Exit → Act → World → Prop} {l : List Oper} {a : Act} {w : World} (h : ∀ W, W = w → wpList P ops Q l a W) : wpList P ops Q l a w := h w rfl
theorem beq_yes {a b : ByteArray} (h : a = b) : (a.toList == b.toList) = true := (Lib.bytes_beq_iff a b).2 h
theorem beq_no {a b : ByteArray} (h : a ≠ b) : (a.toList == b.toList) = false := (Lib.bytes_beq_false_iff a b).2 h
theorem below2 {w a b : World} (h : Below w.heap.size w a) (h2 : Below a.heap.size a b) : Below w.heap.size w b := h.trans (h2.mono h.size)
theorem below_al {w x : World} (h : Below w.heap.size w x) (o : Obj) : Below w.heap.size w (x.alloc o) := h.alloc h.size o
theorem below_dN {B : Nat} {a w : World} (h : Below B a w) (n : Nat) : Below B a (w.drewN n) := ⟨h.os, h.tape, h.output, h.size, h.block⟩
/-- A load is taken first; the place that it writes is named. -/
theorem take_at {P : Program} {ops : Array Oper} {Q : Exit → Act → World → Prop} {md : Region.Mode} {S : World → Prop} {l : List Nat} {i : Nat} {oi : Oper} {v : Value} {fuel : Nat} {listed : Array Bool} {a : Act} {w : World} (t : Tmp) (hi : ops[i]? = some oi) (ht : oi.dst = some t)
    (hs : Region.noSelect ops = true) (hf : Region.free md ops listed i = true) (hr : (Region.ready md ops listed).contains i = true)
    (hd : l.all (fun j => (Ord.desc md ops i).contains j) = true) (hw : Ord.waits md ops (Ord.among (Ord.desc md ops i)) i = true) (hl : (Ord.desc md ops i).all (fun j => decide (j < listed.size)) = true) (ha : Ord.ahead (Ord.among (Ord.desc md ops i)) listed.size listed = true)
    (hQ : ∀ c a w, Q (.panic c) (a.put oi.dst v) w → Q (.panic c) a w) (hy : YieldsIf P ops S oi v a) (hS : S w)
    (h : Ord.wpAnyU P md ops Q S (Ord.among l) fuel (listed.setIfInBounds i true) (a.put (some t) v) w) : Ord.wpAnyU P md ops Q S (Ord.among l) (fuel + 1) listed a w :=
  Ord.wpAnyU_take hi hs hf hr hd hw hl ha hQ hy hS (by rw [ht]; exact h)
theorem val_at (r : RepIn) : r.val[0]? = some (.int .i64 r.err) ∧ r.val[1]? = some (.int .i64 r.id) ∧ r.val[2]? = some (.int .i64 r.n) ∧ r.val[3]? = some (.int .i64 r.st) ∧ r.val[4]? = some (.int .i64 r.ti) := ⟨rfl, rfl, rfl, rfl, rfl⟩
set_option maxRecDepth 100000 in
theorem run_eq {o : Oper} {ev : Operand → Value} {w : World} {a b : RepIn} (x y : Operand) (ho : o.op = .binOp .eql 24 x y 24) (hx : ev x = .agg a.val) (hy : ev y = .agg b.val) : (execOp ev o).run Tryd.prog w = .ok (.value (.bool (decide (a = b)))) w := by
  obtain ⟨a0, a1, a2, a3, a4⟩ := val_at a
  obtain ⟨b0, b1, b2, b3, b4⟩ := val_at b
  unfold execOp
  simp only [ho, hx, hy]
  go_simp
  by_cases h : a = b
  · subst h
    simp
  · rw [decide_eq_false h]
    repeat' split
    all_goals first
      | rfl
      | exact absurd (by cases a; cases b; simp_all) h
/-- Two replies are compared. -/
theorem wpList_run {P : Program} {ops : Array Oper} {rest : List Oper} {o : Oper} {a : Act} {w : World} {Q : Exit → Act → World → Prop} {v : Value} (hg : o.guard = none) (hr : (execOp a.eval o).run P w = .ok (.value v) w) (h : wpList P ops Q rest (a.put o.dst v) w) : wpList P ops Q (o :: rest) a w :=
  wpList_plain hg fun _ hK => by
    unfold Oper.wp
    rw [hr]
    exact hK _ _ h
set_option maxRecDepth 100000 in
theorem of_any (e : Int) (w : World) : Calls Tryd.prog 12 #[.int .i64 e] w fun x w' => x = .returned (.agg (ofE e).val) ∧ Below w.heap.size w w' := by
  go_enter Tryd.func12, Tryd.ntmps12
  go_wp2
  refine bodyPost_ret (results_cell_row (p := 2) (ty := 24) rfl _ _ w.heap.size 24 (ofE e).val (0, 0) _ rfl (heap_alloc_new w _) Tryd.underlying24 rfl (size_val _)) rfl ⟨rfl, below_al (Below.refl _ _) _⟩
set_option maxRecDepth 100000 in
theorem numbers_any (r : RepIn) (w : World) : Calls Tryd.prog 15 #[.agg r.val] w fun x w' => x = .returned (.agg #[.int .i64 r.id, .int .i64 r.n, .int .i64 r.st, .int .i64 r.ti]) ∧ Below w.heap.size w w' := by
  obtain ⟨v0, v1, v2, v3, v4⟩ := val_at r
  go_enter Tryd.func15, Tryd.ntmps15
  go_wp2
  refine bodyPost_ret (results_cell_row (p := 2) (ty := 36) rfl _ _ (w.heap.size + 1) 36 #[.int .i64 r.id, .int .i64 r.n, .int .i64 r.st, .int .i64 r.ti] (0, 0) _ rfl ?_ Tryd.underlying36 rfl (by kernel_rfl)) rfl ⟨rfl, below_al (below_al (Below.refl _ _) _) _⟩
  have := heap_alloc_new (w.alloc (.cells r.val 24)) (.cells #[.int .i64 r.id, .int .i64 r.n, .int .i64 r.st, .int .i64 r.ti] 36)
  rw [show (w.alloc (.cells r.val 24)).heap.size = w.heap.size + 1 from by simp] at this
  exact this
set_option maxRecDepth 100000 in
theorem words_any (w : World) : Calls Tryd.prog 29 #[] w fun x w' => x = .returned (.slice (some ⟨w.heap.size, 0, none⟩) 15 15) ∧ w' = w.alloc (.cells ((wdL.map fun l => Value.string (bs l)).toArray) 9) := by
  go_enter Tryd.func29, Tryd.ntmps29
  go_wp2
  go_ret
  exact ⟨rfl, rfl⟩
theorem may_of {r : RepIn} (h : ¬ (0 ≤ r.err ∧ r.err ≤ 14)) : decide (May r) = false := decide_eq_false fun hm => h ⟨hm.1, hm.2.1⟩
theorem may_yes {r : RepIn} (h0 : 0 ≤ r.err) (h1 : r.err ≤ 14) (a : r.id = 0) (b : r.n = 0) (c : r.st = 0) (d : r.ti = 0) : decide (May r) = true := decide_eq_true ⟨h0, h1, Or.inr (by cases r; simp_all [ofE])⟩
theorem may_eq {r : RepIn} (h0 : 0 ≤ r.err) (h1 : r.err ≤ 14) (hz : ¬ r.err = 0) : decide (May r) = decide (r = ofE r.err) := decide_eq_decide.2 ⟨fun h => h.2.2.resolve_left hz, fun h => ⟨h0, h1, Or.inr h⟩⟩
theorem may_no {r : RepIn} (hz : ¬ r.err = 0) (h : ¬ (r.id = 0 ∧ r.n = 0 ∧ r.st = 0 ∧ r.ti = 0)) : decide (May r) = false := decide_eq_false fun hm => h (by
  have e := hm.2.2.resolve_left hz
  rw [e]
  exact ⟨rfl, rfl, rfl, rfl⟩)
set_option maxRecDepth 100000 in
set_option maxHeartbeats 1000000 in
theorem is_any (r : RepIn) (w : World) : Calls Tryd.prog 13 #[.agg r.val] w fun x w' => x = .returned (.bool (decide (May r))) ∧ Below w.heap.size w w' := by
  obtain ⟨v0, v1, v2, v3, v4⟩ := val_at r
  by_cases h0 : 0 ≤ r.err
  · have d0 : decide (0 ≤ r.err) = true := decide_eq_true h0
    by_cases h1 : r.err ≤ 14
    · have d1 : decide (r.err ≤ 14) = true := decide_eq_true h1
      by_cases hz : r.err = 0
      · have dz : (r.err == 0) = true := beq_iff_eq.2 hz
        have e : decide (May r) = true := decide_eq_true ⟨h0, h1, Or.inl hz⟩
        rw [e]
        go_enter Tryd.func13, Tryd.ntmps13
        go_upto_region 1 with fail
        go_quiet (fail)
        go_wp2
        go_ret
        exact ⟨rfl, below_dN (below_al (Below.refl _ _) _) _⟩
      · have dz : (r.err == 0) = false := beq_eq_false_iff_ne.2 hz
        have CO : Hid (∀ W, Calls Tryd.prog 12 #[.int .i64 r.err] W fun x w' => x = .returned (.agg (ofE r.err).val) ∧ Below W.heap.size W w') := fun W => of_any r.err W
        go_enter Tryd.func13, Tryd.ntmps13
        go_upto_region 1 with fail
        have hHeld : Rp (w.alloc (.cells r.val 24)).drew w.heap.size r := (rp_new (w := w) rfl r).drew
        refine Ord.wp_region_U (fun W' => Rp W' w.heap.size r) [] (by kernel_rfl) ?_
        refine take_at (i := 0) (v := ?_) 3 rfl rfl (by kernel_rfl) (by kernel_rfl) (by kernel_rfl) (by kernel_rfl) (by kernel_rfl) (by kernel_rfl) (by kernel_rfl) (fun _ _ _ h => h) (Or.inl ⟨by kernel_rfl, ?_⟩) hHeld ?_
        rotate_left
        · intro w hSw; (try dsimp only at hSw); (try obtain ⟨f0, f1, f2, f3, f4⟩ := Rp.five hSw); go_simp; (try with_reducible rfl)
        try simp only [Act.put, List.setIfInBounds_toArray, List.set_cons_zero, List.set_cons_succ]
        refine take_at (i := 1) (v := ?_) 4 rfl rfl (by kernel_rfl) (by kernel_rfl) (by kernel_rfl) (by kernel_rfl) (by kernel_rfl) (by kernel_rfl) (by kernel_rfl) (fun _ _ _ h => h) (Or.inl ⟨by kernel_rfl, ?_⟩) hHeld ?_
        rotate_left
        · intro w hSw; (try dsimp only at hSw); (try obtain ⟨f0, f1, f2, f3, f4⟩ := Rp.five hSw); go_simp; (try with_reducible rfl)
        try simp only [Act.put, List.setIfInBounds_toArray, List.set_cons_zero, List.set_cons_succ]
        refine take_at (i := 2) (v := ?_) 5 rfl rfl (by kernel_rfl) (by kernel_rfl) (by kernel_rfl) (by kernel_rfl) (by kernel_rfl) (by kernel_rfl) (by kernel_rfl) (fun _ _ _ h => h) (Or.inl ⟨by kernel_rfl, ?_⟩) hHeld ?_
        rotate_left
        · intro w hSw; (try dsimp only at hSw); (try obtain ⟨f0, f1, f2, f3, f4⟩ := Rp.five hSw); go_simp; (try with_reducible rfl)
        try simp only [Act.put, List.setIfInBounds_toArray, List.set_cons_zero, List.set_cons_succ]
        refine take_at (i := 3) (v := ?_) 6 rfl rfl (by kernel_rfl) (by kernel_rfl) (by kernel_rfl) (by kernel_rfl) (by kernel_rfl) (by kernel_rfl) (by kernel_rfl) (fun _ _ _ h => h) (Or.inl ⟨by kernel_rfl, ?_⟩) hHeld ?_
        rotate_left
        · intro w hSw; (try dsimp only at hSw); (try obtain ⟨f0, f1, f2, f3, f4⟩ := Rp.five hSw); go_simp; (try with_reducible rfl)
        try simp only [Act.put, List.setIfInBounds_toArray, List.set_cons_zero, List.set_cons_succ]
        refine take_at (i := 4) (v := ?_) 7 rfl rfl (by kernel_rfl) (by kernel_rfl) (by kernel_rfl) (by kernel_rfl) (by kernel_rfl) (by kernel_rfl) (by kernel_rfl) (fun _ _ _ h => h) (Or.inl ⟨by kernel_rfl, ?_⟩) hHeld ?_
        rotate_left
        · intro w hSw; (try dsimp only at hSw); (try obtain ⟨f0, f1, f2, f3, f4⟩ := Rp.five hSw); go_simp; (try with_reducible rfl)
        try simp only [Act.put, List.setIfInBounds_toArray, List.set_cons_zero, List.set_cons_succ]
        refine take_at (i := 5) (v := ?_) 8 rfl rfl (by kernel_rfl) (by kernel_rfl) (by kernel_rfl) (by kernel_rfl) (by kernel_rfl) (by kernel_rfl) (by kernel_rfl) (fun _ _ _ h => h) (Or.inl ⟨by kernel_rfl, ?_⟩) hHeld ?_
        rotate_left
        · intro w hSw; (try dsimp only at hSw); (try obtain ⟨f0, f1, f2, f3, f4⟩ := Rp.five hSw); go_simp; (try with_reducible rfl)
        try simp only [Act.put, List.setIfInBounds_toArray, List.set_cons_zero, List.set_cons_succ]
        refine take_at (i := 6) (v := ?_) 9 rfl rfl (by kernel_rfl) (by kernel_rfl) (by kernel_rfl) (by kernel_rfl) (by kernel_rfl) (by kernel_rfl) (by kernel_rfl) (fun _ _ _ h => h) (Or.inl ⟨by kernel_rfl, ?_⟩) hHeld ?_
        rotate_left
        · intro w hSw; (try dsimp only at hSw); (try obtain ⟨f0, f1, f2, f3, f4⟩ := Rp.five hSw); go_simp; (try with_reducible rfl)
        try simp only [Act.put, List.setIfInBounds_toArray, List.set_cons_zero, List.set_cons_succ]
        refine take_at (i := 7) (v := ?_) 10 rfl rfl (by kernel_rfl) (by kernel_rfl) (by kernel_rfl) (by kernel_rfl) (by kernel_rfl) (by kernel_rfl) (by kernel_rfl) (fun _ _ _ h => h) (Or.inl ⟨by kernel_rfl, ?_⟩) hHeld ?_
        rotate_left
        · intro w hSw; (try dsimp only at hSw); (try obtain ⟨f0, f1, f2, f3, f4⟩ := Rp.five hSw); go_simp; (try with_reducible rfl)
        try simp only [Act.put, List.setIfInBounds_toArray, List.set_cons_zero, List.set_cons_succ]
        refine take_at (i := 8) (v := ?_) 11 rfl rfl (by kernel_rfl) (by kernel_rfl) (by kernel_rfl) (by kernel_rfl) (by kernel_rfl) (by kernel_rfl) (by kernel_rfl) (fun _ _ _ h => h) (Or.inl ⟨by kernel_rfl, ?_⟩) hHeld ?_
        rotate_left
        · intro w hSw; (try dsimp only at hSw); (try obtain ⟨f0, f1, f2, f3, f4⟩ := Rp.five hSw); go_simp; (try with_reducible rfl)
        try simp only [Act.put, List.setIfInBounds_toArray, List.set_cons_zero, List.set_cons_succ]
        refine take_at (i := 9) (v := ?_) 12 rfl rfl (by kernel_rfl) (by kernel_rfl) (by kernel_rfl) (by kernel_rfl) (by kernel_rfl) (by kernel_rfl) (by kernel_rfl) (fun _ _ _ h => h) (Or.inl ⟨by kernel_rfl, ?_⟩) hHeld ?_
        rotate_left
        · intro w hSw; (try dsimp only at hSw); (try obtain ⟨f0, f1, f2, f3, f4⟩ := Rp.five hSw); go_simp; (try with_reducible rfl)
        try simp only [Act.put, List.setIfInBounds_toArray, List.set_cons_zero, List.set_cons_succ]
        refine take_at (i := 10) (v := ?_) 13 rfl rfl (by kernel_rfl) (by kernel_rfl) (by kernel_rfl) (by kernel_rfl) (by kernel_rfl) (by kernel_rfl) (by kernel_rfl) (fun _ _ _ h => h) (Or.inl ⟨by kernel_rfl, ?_⟩) hHeld ?_
        rotate_left
        · intro w hSw; (try dsimp only at hSw); (try obtain ⟨f0, f1, f2, f3, f4⟩ := Rp.five hSw); go_simp; (try with_reducible rfl)
        try simp only [Act.put, List.setIfInBounds_toArray, List.set_cons_zero, List.set_cons_succ]
        refine take_at (i := 11) (v := ?_) 14 rfl rfl (by kernel_rfl) (by kernel_rfl) (by kernel_rfl) (by kernel_rfl) (by kernel_rfl) (by kernel_rfl) (by kernel_rfl) (fun _ _ _ h => h) (Or.inl ⟨by kernel_rfl, ?_⟩) hHeld ?_
        rotate_left
        · intro w hSw; (try dsimp only at hSw); (try obtain ⟨f0, f1, f2, f3, f4⟩ := Rp.five hSw); go_simp; (try with_reducible rfl)
        try simp only [Act.put, List.setIfInBounds_toArray, List.set_cons_zero, List.set_cons_succ]
        refine take_at (i := 12) (v := ?_) 15 rfl rfl (by kernel_rfl) (by kernel_rfl) (by kernel_rfl) (by kernel_rfl) (by kernel_rfl) (by kernel_rfl) (by kernel_rfl) (fun _ _ _ h => h) (Or.inl ⟨by kernel_rfl, ?_⟩) hHeld ?_
        rotate_left
        · intro w hSw; (try dsimp only at hSw); (try obtain ⟨f0, f1, f2, f3, f4⟩ := Rp.five hSw); go_simp; (try with_reducible rfl)
        try simp only [Act.put, List.setIfInBounds_toArray, List.set_cons_zero, List.set_cons_succ]
        refine take_at (i := 13) (v := .agg r.val) 16 rfl rfl (by kernel_rfl) (by kernel_rfl) (by kernel_rfl) (by kernel_rfl) (by kernel_rfl) (by kernel_rfl) (by kernel_rfl) (fun _ _ _ h => h) (Or.inl ⟨by kernel_rfl, ?_⟩) hHeld ?_
        · exact fun W2 hS2 => run_load_rep (.tmp 1) rfl rfl hS2
        try simp only [Act.put, List.setIfInBounds_toArray, List.set_cons_zero, List.set_cons_succ]
        refine take_at (i := 14) (v := ?_) 17 rfl rfl (by kernel_rfl) (by kernel_rfl) (by kernel_rfl) (by kernel_rfl) (by kernel_rfl) (by kernel_rfl) (by kernel_rfl) (fun _ _ _ h => h) (Or.inl ⟨by kernel_rfl, ?_⟩) hHeld ?_
        rotate_left
        · intro w hSw; (try dsimp only at hSw); (try obtain ⟨f0, f1, f2, f3, f4⟩ := Rp.five hSw); go_simp; (try with_reducible rfl)
        try simp only [Act.put, List.setIfInBounds_toArray, List.set_cons_zero, List.set_cons_succ]
        refine take_at (i := 15) (v := ?_) 18 rfl rfl (by kernel_rfl) (by kernel_rfl) (by kernel_rfl) (by kernel_rfl) (by kernel_rfl) (by kernel_rfl) (by kernel_rfl) (fun _ _ _ h => h) (Or.inl ⟨by kernel_rfl, ?_⟩) hHeld ?_
        rotate_left
        · intro w hSw; (try dsimp only at hSw); (try obtain ⟨f0, f1, f2, f3, f4⟩ := Rp.five hSw); go_simp; (try with_reducible rfl)
        try simp only [Act.put, List.setIfInBounds_toArray, List.set_cons_zero, List.set_cons_succ]
        refine Ord.wpAnyU_one (i := 16) (by kernel_rfl) rfl (fun K hK => ?_)
        go_simp
        go_wp2_with (go_at_call 12; (with_reducible refine (CO.out _).mono ?_); rintro e w2 ⟨rfl, hb2⟩; have hs2 := Rp.below hHeld hb2; have HB2 : Hid (Below w.heap.size w w2) := below2 (below_dN (below_al (Below.refl w.heap.size w) _) 1) hb2)
        refine hK.out _ _ (fun _ => hs2) ?_
        clear hK K
        try simp only [Act.put, List.setIfInBounds_toArray, List.set_cons_zero, List.set_cons_succ]
        clear hHeld
        have hHeld := hs2
        obtain ⟨B, hB⟩ : ∃ B, Hid (decide (r = ofE r.err) = B) := ⟨_, rfl⟩
        refine take_at (i := 17) (v := .bool (decide (r = ofE r.err))) 20 rfl rfl (by kernel_rfl) (by kernel_rfl) (by kernel_rfl) (by kernel_rfl) (by kernel_rfl) (by kernel_rfl) (by kernel_rfl) (fun _ _ _ h => h) (Or.inl ⟨by kernel_rfl, ?_⟩) hHeld ?_
        · exact fun W2 hS2 => run_eq (.tmp 16) (.tmp 19) rfl rfl rfl
        try simp only [Act.put, List.setIfInBounds_toArray, List.set_cons_zero, List.set_cons_succ]
        rw [hB.out]
        refine take_at (i := 18) (v := ?_) 21 rfl rfl (by kernel_rfl) (by kernel_rfl) (by kernel_rfl) (by kernel_rfl) (by kernel_rfl) (by kernel_rfl) (by kernel_rfl) (fun _ _ _ h => h) (Or.inl ⟨by kernel_rfl, ?_⟩) hHeld ?_
        rotate_left
        · intro w hSw; (try dsimp only at hSw); (try obtain ⟨f0, f1, f2, f3, f4⟩ := Rp.five hSw); go_simp; (try with_reducible rfl)
        try simp only [Act.put, List.setIfInBounds_toArray, List.set_cons_zero, List.set_cons_succ]
        refine take_at (i := 19) (v := ?_) 22 rfl rfl (by kernel_rfl) (by kernel_rfl) (by kernel_rfl) (by kernel_rfl) (by kernel_rfl) (by kernel_rfl) (by kernel_rfl) (fun _ _ _ h => h) (Or.inl ⟨by kernel_rfl, ?_⟩) hHeld ?_
        rotate_left
        · intro w hSw; (try dsimp only at hSw); (try obtain ⟨f0, f1, f2, f3, f4⟩ := Rp.five hSw); go_simp; (try with_reducible rfl)
        try simp only [Act.put, List.setIfInBounds_toArray, List.set_cons_zero, List.set_cons_succ]
        refine Ord.wpAnyU_one (i := 20) (by kernel_rfl) rfl (fun K hK => ?_)
        go_simp
        refine hK.out _ _ (fun _ => hs2) ?_
        clear hK K
        try simp only [Act.put, List.setIfInBounds_toArray, List.set_cons_zero, List.set_cons_succ]
        refine Ord.wpAnyU_done (by kernel_rfl) ?_ _
        go_wp2
        go_ret
        refine ⟨?_, HB2.out⟩
        rw [may_eq h0 h1 hz, hB.out]
        try rfl
    · have d1 : decide (r.err ≤ 14) = false := decide_eq_false h1
      rw [may_of fun h => h1 h.2]
      go_enter Tryd.func13, Tryd.ntmps13
      go_upto_region 1 with fail
      go_quiet (fail)
      go_wp2
      go_ret
      exact ⟨rfl, below_dN (below_al (Below.refl _ _) _) _⟩
  · have d0 : decide (0 ≤ r.err) = false := decide_eq_false h0
    rw [may_of fun h => h0 h.1]
    go_enter Tryd.func13, Tryd.ntmps13
    go_upto_region 1 with fail
    go_quiet (fail)
    go_wp2
    go_ret
    exact ⟨rfl, below_dN (below_al (Below.refl _ _) _) _⟩
set_option maxRecDepth 100000 in
set_option maxHeartbeats 1000000 in
theorem refMay_any (r : RepIn) (w : World) : Calls Tryd.prog 17 #[.agg r.val] w fun x w' => x = .returned (.bool (decide (May r))) ∧ Below w.heap.size w w' := by
  obtain ⟨v0, v1, v2, v3, v4⟩ := val_at r
  have HR := Lib.hid (rp_new (w := w) rfl r)
  by_cases h0 : 0 ≤ r.err
  · have d0 : decide (0 ≤ r.err) = true := decide_eq_true h0
    by_cases h1 : r.err ≤ 14
    · have d1 : decide (r.err ≤ 14) = true := decide_eq_true h1
      by_cases hz : r.err = 0
      · have dz : (r.err == 0) = true := beq_iff_eq.2 hz
        have e : decide (May r) = true := decide_eq_true ⟨h0, h1, Or.inl hz⟩
        rw [e]
        go_enter Tryd.func17, Tryd.ntmps17
        go_wp2
        go_ret
        exact ⟨rfl, below_al (Below.refl _ _) _⟩
      · have dz : (r.err == 0) = false := beq_eq_false_iff_ne.2 hz
        go_enter Tryd.func17, Tryd.ntmps17
        go_wp2
        all_goals go_ret
        all_goals refine ⟨?_, below_al (Below.refl _ _) _⟩
        all_goals first
          | (rw [show decide (May r) = true from may_yes h0 h1 ‹r.id = 0› ‹r.n = 0› ‹r.st = 0› ‹r.ti = 0›]; rfl)
          | (rw [show decide (May r) = false from may_no hz (by omega)]; rfl)
    · have d1 : decide (r.err ≤ 14) = false := decide_eq_false h1
      rw [may_of fun h => h1 h.2]
      go_enter Tryd.func17, Tryd.ntmps17
      go_wp2
      go_ret
      exact ⟨rfl, below_al (Below.refl _ _) _⟩
  · have d0 : decide (0 ≤ r.err) = false := decide_eq_false h0
    rw [may_of fun h => h0 h.1]
    go_enter Tryd.func17, Tryd.ntmps17
    go_wp2
    go_ret
    exact ⟨rfl, below_al (Below.refl _ _) _⟩
end Rep
end Go.Proofs.YtmaddebfoefckaaDoor
