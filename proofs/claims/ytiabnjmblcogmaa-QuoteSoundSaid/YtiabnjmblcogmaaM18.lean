/- Texts put together: QuoK2. -/
import Derived.Test.YtiabnjmblcogmaaM17
set_option linter.all false
section
namespace Go.Proofs.Ytiabnjmblcogmaa
open Go.RowKit
namespace Quo
open Cat (CatIn BayIn chkC nob noy makerV Cam Box box_new box_b box_next box_flat atY)
open Rec (BlueIn Stk inB)
open Pen (below2 below_al below_dN)
/-- A shop's cells. -/
def shopF (y : BayIn) (n : Nat) (v : Value) (i : Nat) : Value := if i = 0 then .int .i64 y.place else if i = 1 then .int .i64 y.make else if i = 2 then .int .i64 y.lab else if i = 3 then .int .i64 y.rate else if i = 4 then .int .i64 (n : Int) else v
/-- A shop, and its jobs. -/
structure Shop (c : CatIn) (l : List Int) (level : Int) (y : BayIn) (n k : Nat) (base g : Nat) (L : List JobIn) (v : Value) (w : World) : Prop where
  lo : base ≤ g
  row : w.rowIs g 58 6 (shopF y n v)
  own : w.ownsRow (g + 1) 62 3 v L.length (jobVals L)
  jobs : JobsOk c l level k w (g + 1) L
theorem Shop.lt {c : CatIn} {l : List Int} {level : Int} {y : BayIn} {n k base g : Nat} {L : List JobIn} {v : Value} {w : World} (h : Shop c l level y n k base g L v w) : g < w.heap.size := h.row.lt
theorem Shop.below {c : CatIn} {l : List Int} {level : Int} {y : BayIn} {n k base g : Nat} {L : List JobIn} {v : Value} {w w' : World} (h : Shop c l level y n k base g L v w) (hb : Below w.heap.size w w') : Shop c l level y n k base g L v w' :=
  ⟨h.lo, h.row.of_block (hb.block g h.lt), Own.own_below h.own hb, h.jobs.below hb⟩
theorem Shop.skip {c : CatIn} {l : List Int} {level : Int} {y : BayIn} {n k base g : Nat} {L : List JobIn} {v : Value} {w : World} (h : Shop c l level y n k base g L v w) (h0 : l.getD k 0 = 0) : Shop c l level y n (k + 1) base g L v w := ⟨h.lo, h.row, h.own, h.jobs.skip h0⟩
theorem shop_new {c : CatIn} {l : List Int} {level : Int} (y : BayIn) (n base : Nat) (W : World) (hb : base ≤ W.heap.size) : Shop c l level y n 0 base W.heap.size [] (.slice none 0 0) (W.alloc (.cells #[.int .i64 y.place, .int .i64 y.make, .int .i64 y.lab, .int .i64 y.rate, .int .i64 (n : Int), .slice none 0 0] 58)) :=
  ⟨hb, ⟨_, Own.heap_new W _, rfl, fun i hi => by
    match i, hi with
    | 0, _ => rfl
    | 1, _ => rfl
    | 2, _ => rfl
    | 3, _ => rfl
    | 4, _ => rfl
    | 5, _ => rfl⟩, World.ownsRow_nil _ _ _ _, JobsOk.nil _ _ _ _ _⟩
theorem grw_set (w : World) (g i : Nat) (u : Value) : w.grownBy (w.setCell ⟨g, i, none⟩ u) (some g) := ⟨rfl, rfl, rfl, by simp, fun k _ hne => Below.heap_setCell _ _ _ _ (fun e => hne (by rw [e]))⟩
theorem own_set {w : World} {base : Nat} {e : TypeId} {size : Nat} {v : Value} {n : Nat} {xs : List Value} (h : w.ownsRow base e size v n xs) {g : Nat} (hg : g < base) (i : Nat) (u : Value) : (w.setCell ⟨g, i, none⟩ u).ownsRow base e size v n xs :=
  h.kept (grw_set w g i u) (.inr fun e => by have := (h.lt g e).1; omega)
theorem shop_new2 {c : CatIn} {l : List Int} {level : Int} (y : BayIn) (n base : Nat) {W : World} {g : Nat} (hg : W.heap.size = g) (hb : base ≤ g) : Shop c l level y n 0 base g [] (.slice none 0 0) (W.alloc (.cells #[.int .i64 y.place, .int .i64 y.make, .int .i64 y.lab, .int .i64 y.rate, .int .i64 (n : Int), .slice none 0 0] 58)) := by
  subst hg; exact shop_new y n base W hb
/-- One job more. -/
theorem Shop.snoc {c : CatIn} {l : List Int} {level : Int} {y : BayIn} {n k base g : Nat} {L : List JobIn} {v v' : Value} {w w' : World} (h : Shop c l level y n k base g L v w) (h0 : l.getD k 0 ≠ 0) (j : JobIn) (hb : j.blue = k) (hw : j.waits = waitsL c l k) (ht : j.time = timeJ c k l level) (hl : WaitsAt w (g + 1) j) (hg : w.grownBy w' v.ownBlock) (hown : w'.ownsRow (g + 1) 62 3 v' (L.length + 1) (jobVals (L ++ [j]))) :
    Shop c l level y n (k + 1) base g (L ++ [j]) v' (w'.setCell ⟨g, 5, none⟩ v') := by
  have hgr : w'.rowIs g 58 6 (shopF y n v) := h.row.of_block (hg.block g h.lt fun e => by
    have := (h.own.lt g e.symm).1
    omega)
  have hjn : ∀ x, WaitsAt w (g + 1) x → WaitsAt (w'.setCell ⟨g, 5, none⟩ v') (g + 1) x := fun x hx => by
    have h1 := waitsAt_grown hx hg fun b e => waits_ne hx h.own b e
    exact own_set h1 (Nat.lt_succ_self g) 5 v'
  refine ⟨h.lo, ?_, ?_, ?_⟩
  · refine (hgr.set 5 v').congr fun i hi => ?_
    match i, hi with
    | 0, _ => rfl
    | 1, _ => rfl
    | 2, _ => rfl
    | 3, _ => rfl
    | 4, _ => rfl
    | 5, _ => rfl
  · rw [List.length_append]
    exact own_set hown (Nat.lt_succ_self g) 5 v'
  · exact JobsOk.snoc ⟨h.jobs.blues, h.jobs.waits, h.jobs.time, fun x hx => hjn x (h.jobs.lies x hx)⟩ h0 j hb hw ht (hjn j hl)
theorem own_le {w : World} {base base' : Nat} {e : TypeId} {size : Nat} {v : Value} {n : Nat} {xs : List Value} (h : w.ownsRow base e size v n xs) (hb : base' ≤ base) : w.ownsRow base' e size v n xs :=
  ⟨h.1, by
    rcases h.2 with h0 | ⟨g, cap, cur, h1, h2, h3⟩
    · exact .inl h0
    · exact .inr ⟨g, cap, cur, h1, Nat.le_trans hb h2, h3⟩⟩
theorem own_slice {w : World} {base : Nat} {e : TypeId} {size : Nat} {v : Value} {n : Nat} {xs : List Value} (h : w.ownsRow base e size v n xs) : ∃ a c, v = .slice a n c := by
  rcases h.2 with ⟨rfl, rfl⟩ | ⟨g, cap, cur, rfl, -⟩
  · exact ⟨_, _, rfl⟩
  · exact ⟨_, _, rfl⟩
theorem info_of {P : Program} {e : TypeId} {z : Value} {n b : Nat} (h : (P.info? e).map (fun i => (i.zero, i.size, i.bytes)) = some (some z, n, b)) : ∃ i, P.info? e = some i ∧ i.zero = some z ∧ i.size = n ∧ i.bytes = b := by
  cases hi : P.info? e with
  | none => rw [hi] at h; cases h
  | some i =>
    rw [hi] at h
    simp only [Option.map_some, Option.some.injEq, Prod.mk.injEq] at h
    exact ⟨i, rfl, h.1, h.2.1, h.2.2⟩
theorem info3 : (Try.prog.info? 3).map (fun i => (i.zero, i.size, i.bytes)) = some (some (.int .i64 0), 1, 8) := by kernel_rfl
theorem infoJ : (Try.prog.info? 62).map (fun i => (i.zero, i.size, i.bytes)) = some (some (.agg #[.int .i64 0, .slice none 0 0, .int .i64 0]), 3, 40) := by kernel_rfl
/-- A job's cells. -/
def jobF (k : Nat) (v : Value) (t : Int) (i : Nat) : Value := if i = 0 then .int .i64 (k : Int) else if i = 1 then v else .int .i64 t
theorem jobrow_new (W : World) (k : Nat) : (W.alloc (.cells #[.int .i64 (k : Int), .slice none 0 0, .int .i64 0] 62)).rowIs W.heap.size 62 3 (jobF k (.slice none 0 0) 0) :=
  ⟨_, Own.heap_new W _, rfl, fun i hi => by
    match i, hi with
    | 0, _ => rfl
    | 1, _ => rfl
    | 2, _ => rfl⟩
theorem jobrow_set1 {W : World} {g k : Nat} {v : Value} {t : Int} (h : W.rowIs g 62 3 (jobF k v t)) (u : Value) : (W.setCell ⟨g, 1, none⟩ u).rowIs g 62 3 (jobF k u t) := (h.set 1 u).congr fun i hi => by
  match i, hi with
  | 0, _ => rfl
  | 1, _ => rfl
  | 2, _ => rfl
theorem jobrow_set2 {W : World} {g k : Nat} {v : Value} {t : Int} (h : W.rowIs g 62 3 (jobF k v t)) (u : Int) : (W.setCell ⟨g, 2, none⟩ (.int .i64 u)).rowIs g 62 3 (jobF k v u) := (h.set 2 (.int .i64 u)).congr fun i hi => by
  match i, hi with
  | 0, _ => rfl
  | 1, _ => rfl
  | 2, _ => rfl
theorem jobrow_cells {W : World} {g k : Nat} {v : Value} {t : Int} (h : W.rowIs g 62 3 (jobF k v t)) : W.cell? ⟨g, 0, none⟩ = some (.int .i64 (k : Int)) ∧ W.cell? ⟨g, 1, none⟩ = some v ∧ W.cell? ⟨g, 2, none⟩ = some (.int .i64 t) ∧ W.frozen? ⟨g, 1, none⟩ = false ∧ W.frozen? ⟨g, 2, none⟩ = false :=
  ⟨h.cell (by decide), h.cell (by decide), h.cell (by decide), h.frozen 1, h.frozen 2⟩
theorem box_set {w : World} {c : CatIn} {W : World} (h : Box w c W) {g i : Nat} (hg : w.heap.size < g) (u : Value) : Box w c (W.setCell ⟨g, i, none⟩ u) := by
  have e : ∀ j, (W.setCell ⟨g, i, none⟩ u).cell? ⟨w.heap.size, j, none⟩ = W.cell? ⟨w.heap.size, j, none⟩ := fun j => World.cell?_of_block (Below.heap_setCell _ _ _ _ (by show w.heap.size ≠ g; omega))
  obtain ⟨h1, h2, h3⟩ := h
  refine ⟨h1.setCell (Nat.le_of_lt hg) _, by simpa using h2, ?_⟩
  simp only [e]
  exact h3
/-- A job that is being made. -/
structure JM (w : World) (c : CatIn) (wr : World) (k : Nat) (t : Int) (ws : List Int) (v : Value) (W : World) : Prop where
  lo : w.heap.size < wr.heap.size
  box : Box w c W
  fr : Below wr.heap.size wr W
  row : W.rowIs wr.heap.size 62 3 (jobF k v t)
  own : W.ownsRow (wr.heap.size + 1) 3 1 v ws.length (ws.map (Value.int .i64))
section
variable {w : World} {c : CatIn} {wr : World} {k : Nat} {t : Int} {ws : List Int} {v : Value} {W W' : World}
theorem JM.lt (h : JM w c wr k t ws v W) : wr.heap.size < W.heap.size := h.row.lt
theorem JM.below (h : JM w c wr k t ws v W) (hb : Below W.heap.size W W') : JM w c wr k t ws v W' :=
  ⟨h.lo, box_next h.box hb, h.fr.trans (hb.mono h.fr.size), h.row.of_block (hb.block _ h.lt), Own.own_below h.own hb⟩
theorem JM.alloc (h : JM w c wr k t ws v W) (o : Obj) : JM w c wr k t ws v (W.alloc o) := h.below (below_al (Below.refl _ _) _)
theorem JM.first (k : Nat) (hB : Box w c wr) (hb : Below (wr.alloc (.cells #[.int .i64 (k : Int), .slice none 0 0, .int .i64 0] 62)).heap.size (wr.alloc (.cells #[.int .i64 (k : Int), .slice none 0 0, .int .i64 0] 62)) W) : JM w c wr k 0 [] (.slice none 0 0) W :=
  ⟨hB.2.1, box_next (box_next hB (below_al (Below.refl _ _) _)) hb, (below_al (Below.refl _ _) _).trans (hb.mono (by simp)), (jobrow_new wr k).of_block (hb.block _ (by simp)), World.ownsRow_nil _ _ _ _⟩
theorem JM.time (h : JM w c wr k t ws v W) (u : Int) : JM w c wr k u ws v (W.setCell ⟨wr.heap.size, 2, none⟩ (.int .i64 u)) :=
  ⟨h.lo, box_set h.box h.lo _, h.fr.setCell (Nat.le_refl _) _, jobrow_set2 h.row u, own_set h.own (Nat.lt_succ_self _) 2 _⟩
theorem JM.grow (h : JM w c wr k t ws v W) (hg : W.grownBy W' v.ownBlock) : W'.cell? ⟨wr.heap.size, 1, none⟩ = some v ∧ W'.frozen? ⟨wr.heap.size, 1, none⟩ = false :=
  have hr := h.row.of_block (hg.block _ h.lt fun e => by have := (h.own.lt _ e.symm).1; omega)
  ⟨hr.cell (by decide), hr.frozen 1⟩
/-- One more for which it waits. -/
theorem JM.wait (h : JM w c wr k t ws v W) {x : Int} {v' : Value} (hg : W.grownBy W' v.ownBlock) (ho : W'.ownsRow (wr.heap.size + 1) 3 1 v' (ws.length + 1) (ws.map (Value.int .i64) ++ [.int .i64 x])) : JM w c wr k t (ws ++ [x]) v' (W'.setCell ⟨wr.heap.size, 1, none⟩ v') := by
  have hl := h.lt
  have hlo := h.lo
  have hne : ∀ b, v.ownBlock = some b → wr.heap.size + 1 ≤ b := fun b e => (h.own.lt b e).1
  have hB' : Below (wr.heap.size + 1) W W' := ⟨hg.os, hg.tape, hg.output, hg.size, fun j hj => hg.block j (by omega) fun e => by have := hne j e.symm; omega⟩
  have hbx : Box w c W' := by
    have e : ∀ j, W'.cell? ⟨w.heap.size, j, none⟩ = W.cell? ⟨w.heap.size, j, none⟩ := fun j => hB'.cell (p := ⟨w.heap.size, j, none⟩) (by show w.heap.size < _; omega)
    obtain ⟨h1, h2, h3⟩ := h.box
    refine ⟨h1.trans (hB'.mono (by omega)), by have := hB'.size; omega, ?_⟩
    simp only [e]
    exact h3
  refine ⟨hlo, box_set hbx hlo _, (h.fr.trans (hB'.mono (by omega))).setCell (Nat.le_refl _) _, jobrow_set1 (h.row.of_block (hB'.block _ (Nat.lt_succ_self _))) v', ?_⟩
  rw [List.length_append, List.map_append]
  exact own_set ho (Nat.lt_succ_self _) 1 v'
end
theorem take_at {P : Program} {ops : Array Oper} {Q : Exit → Act → World → Prop} {md : Region.Mode} {S : World → Prop} {l : List Nat} {i : Nat} {oi : Oper} {v : Value} {fuel : Nat} {listed : Array Bool} {a : Act} {w : World} (t : Tmp) (hi : ops[i]? = some oi) (ht : oi.dst = some t)
    (hs : Region.noSelect ops = true) (hf : Region.free md ops listed i = true) (hr : (Region.ready md ops listed).contains i = true)
    (hd : l.all (fun j => (Ord.desc md ops i).contains j) = true) (hw : Ord.waits md ops (Ord.among (Ord.desc md ops i)) i = true) (hl : (Ord.desc md ops i).all (fun j => decide (j < listed.size)) = true) (ha : Ord.ahead (Ord.among (Ord.desc md ops i)) listed.size listed = true)
    (hQ : ∀ c a w, Q (.panic c) (a.put oi.dst v) w → Q (.panic c) a w) (hy : YieldsIf P ops S oi v a) (hS : S w)
    (h : Ord.wpAnyU P md ops Q S (Ord.among l) fuel (listed.setIfInBounds i true) (a.put (some t) v) w) : Ord.wpAnyU P md ops Q S (Ord.among l) (fuel + 1) listed a w :=
  Ord.wpAnyU_take hi hs hf hr hd hw hl ha hQ hy hS (by rw [ht]; exact h)
theorem cell_grown {w w' : World} {o : Option Nat} {g i : Nat} {v : Value} (h : w.grownBy w' o) (hg : g < w.heap.size) (hne : o ≠ some g) (hc : w.cell? ⟨g, i, none⟩ = some v) : w'.cell? ⟨g, i, none⟩ = some v := by
  unfold World.cell? at hc ⊢
  rw [h.block g hg (fun e => hne (by rw [e]))]
  exact hc
theorem froz_grown {w w' : World} {o : Option Nat} {g i : Nat} {b : Bool} (h : w.grownBy w' o) (hg : g < w.heap.size) (hne : o ≠ some g) (hc : w.frozen? ⟨g, i, none⟩ = b) : w'.frozen? ⟨g, i, none⟩ = b := by
  unfold World.frozen? at hc ⊢
  rw [h.block g hg (fun e => hne (by rw [e]))]
  exact hc
theorem box_grown {w : World} {c : CatIn} {W W' : World} {o : Option Nat} (h : Box w c W) (hg : W.grownBy W' o) (ho : ∀ b, o = some b → w.heap.size < b) : Box w c W' := by
  obtain ⟨h1, h2, h3⟩ := h
  have e : ∀ j, W'.cell? ⟨w.heap.size, j, none⟩ = W.cell? ⟨w.heap.size, j, none⟩ := fun j => World.cell?_of_block (hg.block _ h2 fun e => absurd (ho _ e.symm) (Nat.lt_irrefl _))
  refine ⟨⟨hg.os.trans h1.os, hg.tape.trans h1.tape, hg.output.trans h1.output, Nat.le_trans h1.size hg.size, fun k hk => (hg.block k (Nat.lt_of_lt_of_le hk h1.size) fun e => by have := ho _ e.symm; omega).trans (h1.block k hk)⟩, Nat.lt_of_lt_of_le h2 hg.size, ?_⟩
  simp only [e]
  exact h3
theorem held_grown {w w' : World} {o : Option Nat} {g j : Nat} {a b c d : Value} (h : w.cell? ⟨g, 5, none⟩ = some a ∧ w.cell? ⟨j, 0, none⟩ = some b ∧ w.cell? ⟨j, 1, none⟩ = some c ∧ w.cell? ⟨j, 2, none⟩ = some d) (hg : w.grownBy w' o) (h1 : g < w.heap.size) (h2 : j < w.heap.size) (h3 : o ≠ some g) (h4 : o ≠ some j) : w'.cell? ⟨g, 5, none⟩ = some a ∧ w'.cell? ⟨j, 0, none⟩ = some b ∧ w'.cell? ⟨j, 1, none⟩ = some c ∧ w'.cell? ⟨j, 2, none⟩ = some d :=
  ⟨cell_grown hg h1 h3 h.1, cell_grown hg h2 h4 h.2.1, cell_grown hg h2 h4 h.2.2.1, cell_grown hg h2 h4 h.2.2.2⟩
theorem job_new (W : World) (a b c : Value) (t : TypeId) : ∀ j u, [a, b, c][j]? = some u → (W.alloc (.cells #[a, b, c] t)).cell? ((⟨W.heap.size, 0, none⟩ : Addr).add j) = some u := fun j u hj => by
  match j, hj with
  | 0, hj => simp at hj; subst hj; simp [Addr.add, World.cell?_alloc_at]
  | 1, hj => simp at hj; subst hj; simp [Addr.add, World.cell?_alloc_at]
  | 2, hj => simp at hj; subst hj; simp [Addr.add, World.cell?_alloc_at]
  | j + 3, hj => simp at hj
/-- What comes of it: a shop, and its jobs. -/
def Made (c : CatIn) (l : List Int) (level : Int) (y : BayIn) (n : Nat) (w : World) (e : Ending) (w' : World) : Prop := ∃ g L v, e = .returned (.tuple #[.pointer (some ⟨g, 0, none⟩), .int .i64 0]) ∧ Hid (Shop c l level y n n w.heap.size g L v w') ∧ Hid (Below w.heap.size w w')
set_option maxRecDepth 100000 in
set_option maxHeartbeats 8000000 in
theorem made_yes (c : CatIn) (w : World) (hc : Cam w c) (bay : Int) (a : Option Addr) (cap : Nat) (l : List Int) (hl : l.length ≤ 20) (ha : In.Ints .i64 w a l) (level : Int) (hm : mayV c bay l level = 0) :
    Calls Try.prog 19 #[.agg c.val, .int .i64 bay, .slice a l.length cap, .int .i64 level] w (Made c l level (c.bays.getD (bay.toNat - 1) noy) c.blues.length w) := by
  obtain ⟨hK, hb1, hb2, hr, hl0, hl1⟩ := mayV_ok hm
  have hlen := runsOk_len hr
  have hany : (l.any fun n => !runOk n) = false := by
    rw [any_notOk, Bool.and_eq_true] at hr
    cases hx : (l.any fun n => !runOk n) with
    | false => rfl
    | true => rw [hx] at hr; cases hr.1
  obtain ⟨cz, h2⟩ : ∃ cz, Hid (cz = c) := ⟨c, rfl⟩
  obtain ⟨i0, hi0, hz0, hz1, hz2⟩ := info_of info3
  obtain ⟨iJ, hiJ, hzJ, hzK, hzL⟩ := info_of infoJ
  have HB0 := Lib.hid (box_new w c 27)
  have CC : Hid (∀ W, Below w.heap.size w W → Calls Try.prog 36 #[.agg c.val] W fun e w' => e = .returned (.int .i64 0) ∧ Below W.heap.size W w') := fun W h => by rw [← hK]; exact Cat.Check_any c W (hc.below h)
  have CY : Hid (∀ W, Below w.heap.size w W → Calls Try.prog 45 #[.agg c.val, .int .i64 bay] W fun e w' => e = .returned (.tuple #[.agg (c.bays.getD (bay.toNat - 1) noy).val, .int .i64 0]) ∧ Below W.heap.size W w') := fun W h => by
    have := Cat.Bay_any c bay W (hc.below h)
    rw [atY_yes hb1 hb2] at this
    exact this
  have CF : Hid (∀ W, Below w.heap.size w W → Calls Try.prog 23 #[.slice a l.length cap, .func (.func 46) #[] #[]] W fun e w' => e = .returned (.bool false) ∧ W = w') := fun W h => by rw [← hany]; exact containsMade_any a cap l (by omega) W (ha.below h)
  have CT : Hid (∀ W (k : Nat), k < c.blues.length → Below w.heap.size w W → Calls Try.prog 47 #[.agg (c.blues.getD k nob).val, .int .i64 level, .int .i64 (l.getD k 0)] W fun e w' => e = .returned (.tuple #[.int .i64 (timeJ cz k l level), .int .i64 (Rec.timeV (c.blues.getD k nob) level (l.getD k 0)).2]) ∧ Below W.heap.size W w') := fun W k hk h => by rw [h2.out]; exact Rec.time_any _ level _ W ((hc.below h).came hk)
  have CM : Hid (∀ W z, Below w.heap.size w W → Calls Try.prog 48 #[.agg c.val, .int .i64 z] W fun e w' => e = .returned (.int .i64 (makerV c.blues z)) ∧ Below W.heap.size W w') := fun W z h => Cat.Maker_any c z W (hc.below h)
  have HWS : Hid (∀ k i, i < (c.blues.getD k nob).needs.length → waitsTo cz l k (i + 1) = waitsTo cz l k i ++ if 0 < makerV c.blues ((c.blues.getD k nob).needs.getD i (0, 0)).1 then (if 0 < l.getD (makerV c.blues ((c.blues.getD k nob).needs.getD i (0, 0)).1 - 1).toNat 0 then [makerV c.blues ((c.blues.getD k nob).needs.getD i (0, 0)).1 - 1] else []) else []) := fun k i hi => by rw [h2.out]; exact waitsTo_succ c l k i hi
  have HWN : Hid (∀ k, waitsTo cz l k (c.blues.getD k nob).needs.length = waitsL cz l k) := fun k => by rw [h2.out]; exact waitsTo_all c l k
  have HW0 : Hid (∀ k, waitsTo cz l k 0 = []) := fun k => rfl
  have HMl : Hid (∀ z, makerV c.blues z ≤ (c.blues.length : Int)) := fun z => maker_le _ z
  have HBL := Lib.hid hc.lies.1
  have HST := Lib.hid hc.lies.2.2
  have HNN := Lib.hid hc.small.2.2
  have HA := Lib.hid ha
  have hny := hc.small.2.1
  have hnb := hc.small.1
  have HG : Hid (∀ e w', Made cz l level (c.bays.getD (bay.toNat - 1) noy) c.blues.length w e w' → Made c l level (c.bays.getD (bay.toNat - 1) noy) c.blues.length w e w') := fun e w' h => by rw [h2.out] at h; exact h
  suffices H : Calls Try.prog 19 #[.agg c.val, .int .i64 bay, .slice a l.length cap, .int .i64 level] w (Made cz l level (c.bays.getD (bay.toNat - 1) noy) c.blues.length w) by
    exact H.mono HG.out
  clear HG h2
  obtain ⟨types, blues, baddr, bcap, places, bays, yaddr, ycap, chars, broker, least, sales⟩ := c
  dsimp only at *
  generalize bays.getD (bay.toNat - 1) noy = Y at *
  clear hm hr hany hK hc ha
  unfold CatIn.val BayIn.val at *
  dsimp only at *
  obtain ⟨n, hn⟩ : ∃ n, Hid (blues.length = n) := ⟨_, rfl⟩
  rw [hn.out] at hlen CT HMl CC CY CM HB0 hnb ⊢
  have HLl : Hid (l.length = n) := hlen
  rw [hlen] at CF hl ⊢
  clear hlen
  have HBF : Hid (∀ W, Hid (Box w ⟨types, blues, baddr, bcap, places, bays, yaddr, ycap, chars, broker, least, sales⟩ W) → W.cell? ⟨w.heap.size, 0, none⟩ = some (.int .i64 types) ∧ W.cell? ⟨w.heap.size, 1, none⟩ = some (.slice baddr n bcap) ∧ W.cell? ⟨w.heap.size, 2, none⟩ = some (.int .i64 places) ∧ W.cell? ⟨w.heap.size, 3, none⟩ = some (.slice yaddr bays.length ycap) ∧ W.cell? ⟨w.heap.size, 4, none⟩ = some (.int .i64 chars) ∧ W.cell? ⟨w.heap.size, 5, none⟩ = some (.int .i64 broker) ∧ W.cell? ⟨w.heap.size, 6, none⟩ = some (.int .i64 least) ∧ W.cell? ⟨w.heap.size, 7, none⟩ = some (.int .i64 sales) ∧ w.heap.size < W.heap.size) := fun W h => by
    obtain ⟨c0, c1, c2, c3, c4, c5, c6, c7, -⟩ := box_flat h
    rw [← hn.out]
    exact ⟨c0, c1, c2, c3, c4, c5, c6, c7, h.out.2.1⟩
  go_enter Try.func19, Try.ntmps19
  go_wp2_with (first
    | (go_at_call 36; (with_reducible refine (CC.out _ (box_b HB0.out)).mono ?_); rintro e w1 ⟨rfl, hb1⟩; have HB1 := Lib.hid (box_next HB0.out hb1); clear hb1; obtain ⟨c0, c1, c2, c3, c4, c5, c6, c7, hs2⟩ := HBF.out _ HB1)
    | (go_at_call 45; (with_reducible refine (CY.out _ (box_b HB1.out)).mono ?_); rintro e w2 ⟨rfl, hb2⟩; have HB2 := Lib.hid (box_next HB1.out hb2); clear hb2; clear c0 c1 c2 c3 c4 c5 c6 c7 hs2; obtain ⟨c0, c1, c2, c3, c4, c5, c6, c7, hs2⟩ := HBF.out _ HB2)
    | (go_at_call 23; (with_reducible refine (CF.out _ (below_al (box_b HB2.out) _)).mono ?_); rintro e w3 ⟨rfl, rfl⟩))
  have HS0 : Hid (Shop cz l level Y n 0 w.heap.size (w2.heap.size + 1) [] (.slice none 0 0) ((w2.alloc (.cells #[.int .i64 Y.place, .int .i64 Y.make, .int .i64 Y.lab, .int .i64 Y.rate] 48)).alloc (.cells #[.int .i64 Y.place, .int .i64 Y.make, .int .i64 Y.lab, .int .i64 Y.rate, .int .i64 (n : Int), .slice none 0 0] 58))) := shop_new2 Y n w.heap.size (by simp) (by omega)
  have HBs : Hid (Box w ⟨types, blues, baddr, bcap, places, bays, yaddr, ycap, chars, broker, least, sales⟩ ((w2.alloc (.cells #[.int .i64 Y.place, .int .i64 Y.make, .int .i64 Y.lab, .int .i64 Y.rate] 48)).alloc (.cells #[.int .i64 Y.place, .int .i64 Y.make, .int .i64 Y.lab, .int .i64 Y.rate, .int .i64 (n : Int), .slice none 0 0] 58))) := box_next (box_next HB2.out (below_al (Below.refl _ _) _)) (below_al (Below.refl _ _) _)
  have hg0 : w.heap.size < w2.heap.size + 1 := by omega
  generalize w2.heap.size + 1 = g at *
  go_loopw [60] (fun v60 wr => ∃ (k : Nat) (L : List JobIn) (v : Value), v60 = .int .i64 (k : Int) ∧ k ≤ n ∧ Hid (Shop cz l level Y n k w.heap.size g L v wr) ∧ Hid (Box w ⟨types, blues, baddr, bcap, places, bays, yaddr, ycap, chars, broker, least, sales⟩ wr)) (fun v60 _ => n - (intOf v60).toNat)
  case atStart => exact ⟨0, [], _, rfl, Nat.zero_le _, HS0.out, HBs.out⟩
  case round =>
    clear c0 c1 c2 c3 c4 c5 c6 c7 hs2
    obtain ⟨k, L, v, rfl, hk, HS, HB⟩ := hrel
    obtain ⟨wo, hwo⟩ : ∃ wo, wo = wr := ⟨_, rfl⟩
    subst hwo
    obtain ⟨c0, c1, c2, c3, c4, c5, c6, c7, hs2⟩ := HBF.out _ HB
    by_cases hkl : k < n
    · have dk : decide ((k : Int) < (n : Int)) = true := decide_eq_true (by omega)
      have hk0 : (0 : Int) ≤ (k : Int) := by omega
      have hk1 : (k : Int) < (n : Int) := by omega
      have hk20 : (k : Int) ≤ 20 := by omega
      obtain ⟨rb, ro, rfl, hrl, hrc⟩ := HA.out k (by rw [HLl.out]; exact hkl)
      have x0 := ((box_b HB.out).cell (p := ⟨rb, ro + k, none⟩) hrl).trans hrc
      have hrs : rb < wo.heap.size := Nat.lt_of_lt_of_le hrl (box_b HB.out).size
      by_cases hq : l.getD k 0 = 0
      · have HSk := Lib.hid (HS.out.skip hq)
        rw [hq] at x0
        clear hrc
        go_wp2
        go_roundw
        case rel => exact ⟨k + 1, L, v, by go_num, by omega, HSk.out, HB.out⟩
        case measure => simp [intOf]; omega
      · have HQ := Lib.hid hq
        obtain ⟨q, hqe⟩ : ∃ q, Hid (l.getD k 0 = q) := ⟨_, rfl⟩
        rw [hqe.out] at x0 hq
        have dq : (q == 0) = false := beq_eq_false_iff_ne.2 hq
        clear hrc hq
        obtain ⟨b, off, rfl, hbl, b0, b1, b2, b3, b4, b5, b6⟩ := HBL.out k (by rw [hn.out]; exact hkl)
        have hbs : b < wo.heap.size := Nat.lt_of_lt_of_le hbl (box_b HB.out).size
        have y0 := ((box_b HB.out).cell (p := ⟨b, off + k * 7, none⟩) hbl).trans b0
        have y1 := ((box_b HB.out).cell (p := ⟨b, off + k * 7 + 1, none⟩) hbl).trans b1
        have y2 := ((box_b HB.out).cell (p := ⟨b, off + k * 7 + 2, none⟩) hbl).trans b2
        have y3 := ((box_b HB.out).cell (p := ⟨b, off + k * 7 + 3, none⟩) hbl).trans b3
        have y4 := ((box_b HB.out).cell (p := ⟨b, off + k * 7 + 4, none⟩) hbl).trans b4
        have y5 := ((box_b HB.out).cell (p := ⟨b, off + k * 7 + 5, none⟩) hbl).trans b5
        have y6 := ((box_b HB.out).cell (p := ⟨b, off + k * 7 + 6, none⟩) hbl).trans b6
        have CTk := Lib.hid (fun W h => CT.out W k hkl h)
        have HWSk := Lib.hid (HWS.out k)
        have HWNk := Lib.hid (HWN.out k)
        have HSTk := Lib.hid (HST.out k (by rw [hn.out]; exact hkl))
        have hnnk := HNN.out k (by rw [hn.out]; exact hkl)
        have B3 := Lib.hid b3
        clear b0 b1 b2 b3 b4 b5 b6
        rw [hqe.out] at CTk
        obtain ⟨T, HTe⟩ : ∃ T, Hid (timeJ cz k l level = T) := ⟨_, rfl⟩
        rw [HTe.out] at CTk
        generalize (Rec.timeV (blues.getD k nob) level q).2 = TE at *
        generalize blues.getD k nob = X at *
        obtain ⟨makes, per, time, needs, naddr, ncap, copy, study, most⟩ := X
        dsimp only at *
        unfold BlueIn.val at CTk
        dsimp only at CTk
        go_upto_region 15 with (fail)
        go_upto_region 16 with (go_at_call 47; (with_reducible refine (CTk.out _ (below_al (box_b HB.out) _)).mono ?_); rintro e w3 ⟨rfl, hb3⟩; have HJ := Lib.hid (JM.first k HB.out hb3); clear hb3; obtain ⟨j0, j1, j2, f1, f2⟩ := jobrow_cells HJ.out.row)
        have HJ1 := Lib.hid (HJ.out.time T)
        clear j0 j1 j2 f1 f2 HJ y0 y1 y2 y3 y4 y5 y6 c0 c1 c2 c3 c4 c5 c6 c7 hs2 x0
        generalize w3.setCell ⟨wo.heap.size, 2, none⟩ (.int .i64 T) = W1 at *
        obtain ⟨c0, c1, c2, c3, c4, c5, c6, c7, hs2⟩ := HBF.out _ HJ1.out.box
        have hbs1 : b < W1.heap.size := Nat.lt_of_lt_of_le hbs HJ1.out.fr.size
        have y3 := ((box_b HJ1.out.box).cell (p := ⟨b, off + k * 7 + 3, none⟩) hbl).trans B3.out
        have HW0k := Lib.hid (HW0.out k)
        go_upto_region 17 with (fail)
        go_loopw [88] (fun v88 wi => ∃ (i : Nat) (v2 : Value), v88 = .int .i64 (i : Int) ∧ i ≤ needs.length ∧ Hid (JM w ⟨types, blues, some ⟨b, off, none⟩, bcap, places, bays, yaddr, ycap, chars, broker, least, sales⟩ wo k T (waitsTo cz l k i) v2 wi)) (fun v88 _ => needs.length - (intOf v88).toNat)
        case atStart => exact ⟨0, _, rfl, Nat.zero_le _, by rw [HW0k.out]; exact HJ1.out⟩
        case round =>
          clear c0 c1 c2 c3 c4 c5 c6 c7 hs2 y3 hbs1
          obtain ⟨i, v2, rfl, hi, HJi⟩ := hrel
          obtain ⟨c0, c1, c2, c3, c4, c5, c6, c7, hs2⟩ := HBF.out _ HJi.out.box
          by_cases hil : i < needs.length
          · have di : decide ((i : Int) < (needs.length : Int)) = true := decide_eq_true (by omega)
            have hi00 : (0 : Int) ≤ (i : Int) := by omega
            have hi1 : (i : Int) < (needs.length : Int) := by omega
            obtain ⟨nbk, nof, rfl, hnl, hn0, hn1⟩ := HSTk.out i hil
            have z0 := ((box_b HJi.out.box).cell (p := ⟨nbk, nof + i * 2, none⟩) hnl).trans hn0
            have z1 := ((box_b HJi.out.box).cell (p := ⟨nbk, nof + i * 2 + 1, none⟩) hnl).trans hn1
            have hns : nbk < wr.heap.size := Nat.lt_of_lt_of_le hnl (box_b HJi.out.box).size
            have HWi := Lib.hid (HWSk.out i hil)
            clear hn0 hn1
            generalize needs.getD i (0, 0) = zz at *
            obtain ⟨z, zq⟩ := zz
            dsimp only at z0 z1 HWi
            have hMl := HMl.out z
            have CMz := Lib.hid (fun W h => CM.out W z h)
            obtain ⟨M, hM⟩ : ∃ M, makerV blues z = M := ⟨_, rfl⟩
            rw [hM] at hMl HWi CMz
            clear hM
            by_cases hMp : 0 < M
            · obtain ⟨Mn, rfl⟩ : ∃ Mn : Nat, M = (Mn : Int) + 1 := ⟨M.toNat - 1, by omega⟩
              have dM : decide ((0 : Int) < (Mn : Int) + 1) = true := decide_eq_true hMp
              have hMn : Mn < n := by omega
              have eM : IntKind.i64.wrap ((Mn : Int) + 1 - 1) = (Mn : Int) := by rw [IntKind.wrap_i64]; omega
              have hM0 : (0 : Int) ≤ (Mn : Int) := by omega
              have hM1 : (Mn : Int) < (n : Int) := by omega
              have hM20 : (Mn : Int) ≤ 20 := by omega
              have hWi := HWi.out
              rw [if_pos hMp, show ((Mn : Int) + 1 - 1) = (Mn : Int) by omega, show ((Mn : Int)).toNat = Mn by omega] at hWi
              replace HWi := Lib.hid hWi
              clear hWi hMl
              obtain ⟨rb', ro', era, hrl', hrc'⟩ := HA.out Mn (by rw [HLl.out]; exact hMn)
              cases era
              have HR := Lib.hid hrc'
              clear hrc'
              generalize l.getD Mn 0 = qm at *
              by_cases hqm : 0 < qm
              · have dq2 : decide (0 < qm) = true := decide_eq_true hqm
                have hWi := HWi.out
                rw [if_pos hqm] at hWi
                replace HWi := Lib.hid hWi
                clear hWi
                go_wp2_with (first
                  | (go_at_call 48; (with_reducible refine (CMz.out _ (below_al (box_b HJi.out.box) _)).mono ?_); rintro e w4 ⟨rfl, hb4⟩; have HJ4 := Lib.hid ((HJi.out.alloc _).below hb4); clear hb4; obtain ⟨j0, j1, j2, f1, f2⟩ := jobrow_cells HJ4.out.row; have xm := ((box_b HJ4.out.box).cell (p := ⟨rb, ro + Mn, none⟩) hrl').trans HR.out; have hrs4 := Nat.lt_of_lt_of_le hrl' (box_b HJ4.out.box).size)
                  | (at_builtin; refine Own.list_one rfl (.tmp 107) (.tmp 110) 29 rfl (wo.heap.size + 1) 3 i0 _ 8 Try.underlying29 hi0 hz0 hz1 hz2 rfl _ _ _ rfl _ _ _ rfl (HJ4.out.own.alloc _) (Own.cell_new _ _ _) rfl ?h1 ?h2 ?h3 ?_; (case h1 => have := waitsTo_len cz l k i; unfold maxLen; omega); (case h2 => have := waitsTo_len cz l k i; omega); (case h3 => have := HJ4.out.lt; simp; omega); intro v5 w5 hown5 hgrow5; obtain ⟨va5, vc5, hv5⟩ := own_slice hown5; subst hv5; obtain ⟨j15, f15⟩ := (HJ4.out.alloc _).grow hgrow5; have HJ5 := Lib.hid ((HJ4.out.alloc _).wait hgrow5 hown5); clear hown5 hgrow5))
                go_roundw
                case rel => exact ⟨i + 1, _, by go_num, by omega, by rw [HWi.out]; exact HJ5.out⟩
                case measure => simp [intOf]; omega
              · have dq2 : decide (0 < qm) = false := decide_eq_false hqm
                have hWi := HWi.out
                rw [if_neg hqm, List.append_nil] at hWi
                replace HWi := Lib.hid hWi
                clear hWi
                go_wp2_with (go_at_call 48; (with_reducible refine (CMz.out _ (below_al (box_b HJi.out.box) _)).mono ?_); rintro e w4 ⟨rfl, hb4⟩; have HJ4 := Lib.hid ((HJi.out.alloc _).below hb4); clear hb4; have xm := ((box_b HJ4.out.box).cell (p := ⟨rb, ro + Mn, none⟩) hrl').trans HR.out; have hrs4 := Nat.lt_of_lt_of_le hrl' (box_b HJ4.out.box).size)
                go_roundw
                case rel => exact ⟨i + 1, v2, by go_num, by omega, by rw [HWi.out]; exact HJ4.out⟩
                case measure => simp [intOf]; omega
            · have dM : decide (0 < M) = false := decide_eq_false hMp
              have hWi := HWi.out
              rw [if_neg hMp, List.append_nil] at hWi
              replace HWi := Lib.hid hWi
              clear hWi hMl
              go_wp2_with (go_at_call 48; (with_reducible refine (CMz.out _ (below_al (box_b HJi.out.box) _)).mono ?_); rintro e w4 ⟨rfl, hb4⟩; have HJ4 := Lib.hid ((HJi.out.alloc _).below hb4); clear hb4)
              go_roundw
              case rel => exact ⟨i + 1, v2, by go_num, by omega, by rw [HWi.out]; exact HJ4.out⟩
              case measure => simp [intOf]; omega
          · have di : decide ((i : Int) < (needs.length : Int)) = false := decide_eq_false (by omega)
            have hi1 : ¬ (i : Int) < (needs.length : Int) := by omega
            have hin : i = needs.length := by omega
            subst hin
            obtain ⟨ja, jc, hje⟩ := own_slice HS.out.own
            obtain ⟨wa, wc, hwe⟩ := own_slice HJi.out.own
            subst hje
            subst hwe
            rw [HWNk.out] at HJi
            have HLen := Lib.hid HS.out.jobs.len
            obtain ⟨ws, hws⟩ : ∃ ws, Hid (waitsL cz l k = ws) := ⟨_, rfl⟩
            rw [hws.out] at HJi
            go_upto_region 23 with (fail)
            have HJc : Hid (JM w ⟨types, blues, some ⟨b, off, none⟩, bcap, places, bays, yaddr, ycap, chars, broker, least, sales⟩ wo k T ws (.slice wa ws.length wc) wr.drew) := HJi.out.below (Below.refl wr.heap.size wr).drew
            clear c0 c1 c2 c3 c4 c5 c6 c7 hs2 HJi
            have HOB : Hid (∀ b, (Value.slice ja L.length jc).ownBlock = some b → g + 1 ≤ b ∧ b < wo.heap.size) := HS.out.own.lt
            refine Ord.wp_region_U (fun W' => W'.cell? ⟨g, 5, none⟩ = some (.slice ja L.length jc) ∧ W'.cell? ⟨wo.heap.size, 0, none⟩ = some (.int .i64 (k : Int)) ∧ W'.cell? ⟨wo.heap.size, 1, none⟩ = some (.slice wa ws.length wc) ∧ W'.cell? ⟨wo.heap.size, 2, none⟩ = some (.int .i64 T)) [10] (by kernel_rfl) ?_
            generalize wr.drew = Wc at *
            have HSc := Lib.hid (HS.out.below HJc.out.fr)
            have gl := HSc.out.lt
            have gj := HJc.out.lt
            have glo := HSc.out.lo
            have hgw : g < wo.heap.size := HS.out.lt
            have hgne : ¬ g = wo.heap.size := by omega
            have hHeld : Wc.cell? ⟨g, 5, none⟩ = some (.slice ja L.length jc) ∧ Wc.cell? ⟨wo.heap.size, 0, none⟩ = some (.int .i64 (k : Int)) ∧ Wc.cell? ⟨wo.heap.size, 1, none⟩ = some (.slice wa ws.length wc) ∧ Wc.cell? ⟨wo.heap.size, 2, none⟩ = some (.int .i64 T) := by
              obtain ⟨j0, j1, j2, -, -⟩ := jobrow_cells HJc.out.row
              exact ⟨HSc.out.row.cell (by decide), j0, j1, j2⟩
            have hHd : Hid (∀ W', Below Wc.heap.size Wc W' → W'.cell? ⟨g, 5, none⟩ = some (.slice ja L.length jc) ∧ W'.cell? ⟨wo.heap.size, 0, none⟩ = some (.int .i64 (k : Int)) ∧ W'.cell? ⟨wo.heap.size, 1, none⟩ = some (.slice wa ws.length wc) ∧ W'.cell? ⟨wo.heap.size, 2, none⟩ = some (.int .i64 T)) := fun W' hb =>
              ⟨(hb.cell (p := ⟨g, 5, none⟩) gl).trans hHeld.1, (hb.cell (p := ⟨wo.heap.size, 0, none⟩) gj).trans hHeld.2.1, (hb.cell (p := ⟨wo.heap.size, 1, none⟩) gj).trans hHeld.2.2.1, (hb.cell (p := ⟨wo.heap.size, 2, none⟩) gj).trans hHeld.2.2.2⟩
            refine take_at (i := 0) (v := ?_) 114 rfl rfl (by kernel_rfl) (by kernel_rfl) (by kernel_rfl) (by kernel_rfl) (by kernel_rfl) (by kernel_rfl) (by kernel_rfl) (fun _ _ _ h => h) (Or.inl ⟨by kernel_rfl, ?_⟩) hHeld ?_
            rotate_left
            · intro w hSw; (try dsimp only at hSw); (try obtain ⟨f0, f1, f2, f3⟩ := hSw); go_simp; (try with_reducible rfl)
            try simp only [Act.put, List.setIfInBounds_toArray, List.set_cons_zero, List.set_cons_succ]
            refine take_at (i := 1) (v := ?_) 115 rfl rfl (by kernel_rfl) (by kernel_rfl) (by kernel_rfl) (by kernel_rfl) (by kernel_rfl) (by kernel_rfl) (by kernel_rfl) (fun _ _ _ h => h) (Or.inl ⟨by kernel_rfl, ?_⟩) hHeld ?_
            rotate_left
            · intro w hSw; (try dsimp only at hSw); (try obtain ⟨f0, f1, f2, f3⟩ := hSw); go_simp; (try with_reducible rfl)
            try simp only [Act.put, List.setIfInBounds_toArray, List.set_cons_zero, List.set_cons_succ]
            refine take_at (i := 2) (v := ?_) 116 rfl rfl (by kernel_rfl) (by kernel_rfl) (by kernel_rfl) (by kernel_rfl) (by kernel_rfl) (by kernel_rfl) (by kernel_rfl) (fun _ _ _ h => h) (Or.inl ⟨by kernel_rfl, ?_⟩) hHeld ?_
            rotate_left
            · intro w hSw; (try dsimp only at hSw); (try obtain ⟨f0, f1, f2, f3⟩ := hSw); go_simp; (try with_reducible rfl)
            try simp only [Act.put, List.setIfInBounds_toArray, List.set_cons_zero, List.set_cons_succ]
            refine take_at (i := 3) (v := ?_) 117 rfl rfl (by kernel_rfl) (by kernel_rfl) (by kernel_rfl) (by kernel_rfl) (by kernel_rfl) (by kernel_rfl) (by kernel_rfl) (fun _ _ _ h => h) (Or.inl ⟨by kernel_rfl, ?_⟩) hHeld ?_
            rotate_left
            · intro w hSw; (try dsimp only at hSw); (try obtain ⟨f0, f1, f2, f3⟩ := hSw); go_simp; (try with_reducible rfl)
            try simp only [Act.put, List.setIfInBounds_toArray, List.set_cons_zero, List.set_cons_succ]
            refine take_at (i := 4) (v := ?_) 118 rfl rfl (by kernel_rfl) (by kernel_rfl) (by kernel_rfl) (by kernel_rfl) (by kernel_rfl) (by kernel_rfl) (by kernel_rfl) (fun _ _ _ h => h) (Or.inl ⟨by kernel_rfl, ?_⟩) hHeld ?_
            rotate_left
            · intro w hSw; (try dsimp only at hSw); (try obtain ⟨f0, f1, f2, f3⟩ := hSw); go_simp; (try with_reducible rfl)
            try simp only [Act.put, List.setIfInBounds_toArray, List.set_cons_zero, List.set_cons_succ]
            refine take_at (i := 5) (v := ?_) 119 rfl rfl (by kernel_rfl) (by kernel_rfl) (by kernel_rfl) (by kernel_rfl) (by kernel_rfl) (by kernel_rfl) (by kernel_rfl) (fun _ _ _ h => h) (Or.inl ⟨by kernel_rfl, ?_⟩) hHeld ?_
            rotate_left
            · intro w hSw; (try dsimp only at hSw); (try obtain ⟨f0, f1, f2, f3⟩ := hSw); go_simp; (try with_reducible rfl)
            try simp only [Act.put, List.setIfInBounds_toArray, List.set_cons_zero, List.set_cons_succ]
            refine Ord.wpAnyU_one (i := 6) (by kernel_rfl) rfl (fun K hK => ?_)
            go_simp
            refine hK.out _ _ (fun _ => hHd.out _ (below_al (Below.refl Wc.heap.size Wc) _)) ?_
            clear hK K
            try simp only [Act.put, List.setIfInBounds_toArray, List.set_cons_zero, List.set_cons_succ]
            refine Ord.wpAnyU_one (i := 7) (by kernel_rfl) rfl (fun K hK => ?_)
            refine step_append_lies _ rfl (.tmp 118) (.tmp 120) 56 rfl (g + 1) 62 iJ _ 3 40 Try.underlying56 hiJ hzJ hzK hzL rfl (by decide) (.slice ja L.length jc) L.length _ rfl (HSc.out.own.alloc _) ⟨Wc.heap.size, 0, none⟩ 1 1 [.int .i64 (k : Int), .slice wa ws.length wc, .int .i64 T] rfl rfl (job_new _ _ _ _ _) (by simp [Value.oneCell']) (by decide) ?h1 ?h2 ?h3 _ rfl ?_
            case h1 => have := HLen.out; unfold maxLen; omega
            case h2 => have := HLen.out; omega
            case h3 => simp; omega
            intro gn cap6 w6 hown6 hgrow6 hat6 hlt6
            have hH6 : w6.cell? ⟨g, 5, none⟩ = some (.slice ja L.length jc) ∧ w6.cell? ⟨wo.heap.size, 0, none⟩ = some (.int .i64 (k : Int)) ∧ w6.cell? ⟨wo.heap.size, 1, none⟩ = some (.slice wa ws.length wc) ∧ w6.cell? ⟨wo.heap.size, 2, none⟩ = some (.int .i64 T) := held_grown (hHd.out _ (below_al (Below.refl Wc.heap.size Wc) _)) hgrow6 (by simp; omega) (by simp; omega) (fun e => by have := HOB.out _ e; omega) (fun e => by have := HOB.out _ e; omega)
            refine hK.out _ _ (fun _ => hH6) ?_
            clear hK K
            try simp only [Act.put, List.setIfInBounds_toArray, List.set_cons_zero, List.set_cons_succ]
            refine Ord.wpAnyU_one (i := 8) (by kernel_rfl) rfl (fun K hK => ?_)
            go_simp
            refine hK.out _ _ (fun _ => hH6) ?_
            clear hK K
            try simp only [Act.put, List.setIfInBounds_toArray, List.set_cons_zero, List.set_cons_succ]
            refine Ord.wpAnyU_one (i := 9) (by kernel_rfl) rfl (fun K hK => ?_)
            go_simp
            refine hK.out _ _ (fun _ => hH6) ?_
            clear hK K
            try simp only [Act.put, List.setIfInBounds_toArray, List.set_cons_zero, List.set_cons_succ]
            refine Ord.wpAnyU_one (i := 10) (by kernel_rfl) rfl (fun K hK => ?_)
            have hS6 := Lib.hid ((HSc.out.below (below_al (Below.refl _ _) _)).snoc HQ.out ⟨k, wa, wc, ws, T⟩ rfl hws.out.symm HTe.out.symm (Own.own_below (own_le HJc.out.own (by omega)) (below_al (Below.refl _ _) _)) hgrow6 (by rw [jobVals_append]; simpa [jobVals, jcells] using hown6))
            have hB6 := Lib.hid (box_set (box_grown (box_next HJc.out.box (below_al (Below.refl _ _) _)) hgrow6 fun b e => by have := HOB.out _ e; omega) (i := 5) hg0 (.slice (some ⟨gn, 0, none⟩) (L.length + 1) cap6))
            have fr6 := froz_grown hgrow6 (by simp; omega) (fun e => by have := HOB.out _ e; omega) (World.rowIs.frozen (HSc.out.below (below_al (Below.refl _ _) _)).row 5)
            obtain ⟨h60, h61, h62, h63⟩ := hH6
            go_simp
            refine hK.out _ _ (fun h => by cases h) ?_
            clear hK K
            try simp only [Act.put, List.setIfInBounds_toArray, List.set_cons_zero, List.set_cons_succ]
            refine Ord.wpAnyU_done (by kernel_rfl) ?_ _
            go_wp2
            go_roundw
            case rel => exact ⟨k + 1, _, _, by go_num, by omega, hS6.out, hB6.out⟩
            case measure => simp [intOf]; omega
    · have dk : decide ((k : Int) < (n : Int)) = false := decide_eq_false (by omega)
      have hk1 : ¬ (k : Int) < (n : Int) := by omega
      have hkn : k = n := by omega
      subst hkn
      go_wp2
      go_ret2
      exact ⟨g, L, v, rfl, HS.out, box_b HB.out⟩
end Quo
end Go.Proofs.Ytiabnjmblcogmaa
end
