/- The order of a web's nodes: the walk. -/
import Derived.Test.YtjdkkldlghdojaaGraP
import Derived.Test.YtjdkkldlghdojaaGraW
import Derived.BigQuiet
namespace Go.Proofs.Ytjdkkldlghdojaa
open Go.RowKit
namespace Gra
open In (Ints IsInts)
/-- A web's cells, the open needs told anew. -/
def CO (C : Nat → Value) (O : Int → Int) (j : Nat) : Value := if 66 ≤ j ∧ j ≤ 130 then .int .i64 (O ((j : Int) - 66)) else C j
structure OrdW (W : World) (g : Nat) (C : Nat → Value) (O : Int → Int) (wr : World) : Prop where
  row : wr.rowIs g 48 196 (CO C O)
  grow : W.grownBy wr (some g)
namespace OrdW
variable {W wr : World} {g : Nat} {C : Nat → Value} {O : Int → Int}
theorem lt (h : OrdW W g C O wr) : g < wr.heap.size := h.row.lt
theorem grown (h : OrdW W g C O wr) (hg : g < W.heap.size) {b : World} {row : Option Nat} (hb : wr.grownBy b row) (hr : ∀ k, row = some k → W.heap.size ≤ k) : OrdW W g C O b := by
  refine ⟨h.row.of_block (hb.block g h.lt (fun e => by have := hr g e.symm; omega)), ?_⟩
  exact ⟨hb.os.trans h.grow.os, hb.tape.trans h.grow.tape, hb.output.trans h.grow.output, Nat.le_trans h.grow.size hb.size, fun k hk hne => (hb.block k (Nat.lt_of_lt_of_le hk h.grow.size) (fun e => by have := hr k e.symm; omega)).trans (h.grow.block k hk hne)⟩
theorem alloc (h : OrdW W g C O wr) (o : Obj) : OrdW W g C O (wr.alloc o) :=
  ⟨h.row.alloc o, ⟨h.grow.os, h.grow.tape, h.grow.output, Nat.le_trans h.grow.size (by simp), fun k hk hne => (Below.heap_alloc _ _ _ (Nat.lt_of_lt_of_le hk h.grow.size)).trans (h.grow.block k hk hne)⟩⟩
theorem drew (h : OrdW W g C O wr) : OrdW W g C O wr.drew := ⟨h.row.drew, ⟨h.grow.os, h.grow.tape, h.grow.output, h.grow.size, h.grow.block⟩⟩
theorem drewN (h : OrdW W g C O wr) (q : Nat) : OrdW W g C O (wr.drewN q) := ⟨h.row, ⟨h.grow.os, h.grow.tape, h.grow.output, h.grow.size, h.grow.block⟩⟩
theorem setO (h : OrdW W g C O wr) (x : Nat) (hx : x ≤ 64) (v : Int) : OrdW W g C (fun y => if y = (x : Int) then v else O y) (wr.setCell ⟨g, 66 + x, none⟩ (.int .i64 v)) := by
  refine ⟨(h.row.set _ _).congr fun i hi => ?_, grw_trans h.grow (grw_set _ _ _ _)⟩
  unfold CO
  by_cases e : i = 66 + x
  · rw [if_pos e, if_pos (by omega)]
    show _ = Value.int .i64 (if _ then _ else _)
    rw [if_pos (by omega)]
  · rw [if_neg e]
    by_cases e2 : 66 ≤ i ∧ i ≤ 130
    · rw [if_pos e2, if_pos e2]
      show _ = Value.int .i64 (if _ then _ else _)
      rw [if_neg (by omega)]
    · rw [if_neg e2, if_neg e2]
theorem congr (h : OrdW W g C O wr) {O' : Int → Int} (e : ∀ x, O' x = O x) : OrdW W g C O' wr := by
  rw [show O' = O from funext e]; exact h
end OrdW
theorem Web.start {W : World} {B g : Nat} {n : Int} {R : Nat → List Int} {OW : Nat → Int} {C : Nat → Value} (h : Web W B g n R OW C) {O : Int → Int} (e : ∀ x : Nat, x ≤ 64 → OW x = O (x : Int)) : OrdW W g C O W := by
  refine ⟨h.row.congr fun i hi => ?_, grw_refl _ _⟩
  unfold CO
  split
  · rw [show (i : Int) - 66 = ((i - 66 : Nat) : Int) by omega, ← e (i - 66) (by omega), ← h.cO (i - 66) (by omega)]
    congr 1; omega
  · rfl
theorem Web.back {W wr : World} {B g : Nat} {n : Int} {R : Nat → List Int} {OW : Nat → Int} {C : Nat → Value} (h : Web W B g n R OW C) {O : Int → Int} (ho : OrdW W g C O wr) : Web wr B g n R (fun x => O (x : Int)) (CO C O) := by
  have hC : ∀ i, isRow i → CO C O i = C i := fun i hi => by unfold isRow at hi; unfold CO; rw [if_neg (by omega)]
  refine ⟨ho.row, h.lo, ?_, fun x hx => ?_, fun i hi => ?_, fun i hi => ?_, fun i j hi hj hij => ?_⟩
  · unfold CO; rw [if_neg (by omega)]; exact h.c0
  · unfold CO; rw [if_pos (by omega)]; congr 2; omega
  · rw [hC i hi]
    have h1 := h.own i hi
    refine ⟨h1.1, ?_⟩
    rcases h1.2 with h0 | ⟨g', cap, cur, hv, hb, hg, r⟩
    · exact .inl h0
    · refine .inr ⟨g', cap, cur, hv, hb, ?_, r⟩
      exact (ho.grow.block g' (Array.getElem?_eq_some_iff.1 hg).1 (fun e => h.ne i hi (by rw [hv]; exact e))).trans hg
  · rw [hC i hi]; exact h.ne i hi
  · rw [hC i hi, hC j hj]; exact h.ap i j hi hj hij
theorem RF_nds (E : List (Int × Int)) (x : Nat) (h : x ≤ 64) : RF E (1 + x) = ndsF E (x : Int) := by
  unfold RF; rw [if_pos (by omega), show ((1 + x : Nat) : Int) - 1 = (x : Int) by omega]
theorem RF_usr (E : List (Int × Int)) (x : Nat) : RF E (131 + x) = usrP E (x : Int) := by
  unfold RF; rw [if_neg (by omega), show ((131 + x : Nat) : Int) - 131 = (x : Int) by omega]; rfl
/-- The cells of a web that an order has begun on. -/
structure OrdC (W : World) (g : Nat) (n : Int) (E : List (Int × Int)) (C : Nat → Value) : Prop where
  lt : g < W.heap.size
  c0 : C 0 = .int .i64 n
  own : ∀ i, isRow i → W.ownsRow 0 3 1 (C i) (RF E i).length ((RF E i).map (Value.int .i64))
  ne : ∀ i, isRow i → (C i).ownBlock ≠ some g
theorem Web.ordC {W : World} {B g : Nat} {n : Int} {E : List (Int × Int)} {OW : Nat → Int} {C : Nat → Value} (h : Web W B g n (RF E) OW C) : OrdC W g n E C := by
  refine ⟨h.row.lt, h.c0, fun i hi => ?_, h.ne⟩
  have h1 := h.own i hi
  refine ⟨h1.1, ?_⟩
  rcases h1.2 with h0 | ⟨g', cap, cur, hv, hb, r⟩
  · exact .inl h0
  · exact .inr ⟨g', cap, cur, hv, Nat.zero_le _, r⟩
namespace OrdC
variable {W wr : World} {g : Nat} {n : Int} {E : List (Int × Int)} {C : Nat → Value} {O : Int → Int}
theorem cell0 (h : OrdC W g n E C) (ho : OrdW W g C O wr) : wr.cell? ⟨g, 0, none⟩ = some (.int .i64 n) := by
  rw [ho.row.cell (by decide), show CO C O 0 = C 0 from rfl, h.c0]
theorem cellO (_h : OrdC W g n E C) (ho : OrdW W g C O wr) (x : Nat) (hx : x ≤ 64) : wr.cell? ⟨g, 66 + x, none⟩ = some (.int .i64 (O (x : Int))) := by
  rw [ho.row.cell (by omega)]; unfold CO; rw [if_pos (by omega)]; congr 3; omega
theorem cellR (_h : OrdC W g n E C) (ho : OrdW W g C O wr) {i : Nat} (hi : isRow i) : wr.cell? ⟨g, i, none⟩ = some (C i) := by
  unfold isRow at hi
  rw [ho.row.cell (by omega)]; unfold CO; rw [if_neg (by omega)]
theorem ints (h : OrdC W g n E C) (ho : OrdW W g C O wr) {i : Nat} (hi : isRow i) : ∃ a cap, C i = .slice a (RF E i).length cap ∧ Ints .i64 wr a (RF E i) ∧ ∀ b off, a = some ⟨b, off, none⟩ → b < W.heap.size := by
  rcases (h.own i hi).2 with ⟨e, h0⟩ | ⟨g', cap, cur, hv, hb, hg, r1, r2, r3, r4⟩
  · exact ⟨none, 0, by rw [e, h0], fun j hj => by omega, fun b off e => by cases e⟩
  · have hlt := (Array.getElem?_eq_some_iff.1 hg).1
    refine ⟨some ⟨g', 0, none⟩, cap, hv, ?_, fun b off e => by cases e; exact hlt⟩
    have hown := h.own i hi
    rw [hv] at hown
    have hr : RowAt wr g' ((RF E i).map (Value.int .i64)) := (RowAt.of_own hown).of_block (ho.grow.block g' hlt (fun e => h.ne i hi (by rw [hv]; exact e)))
    exact hr.ints .i64 _ rfl
theorem ints2 (h : OrdC W g n E C) (ho : OrdW W g C O wr) {i : Nat} (hi : isRow i) {a : Option Addr} {m cap : Nat} (hc : C i = .slice a m cap) : Ints .i64 wr a (RF E i) := by
  obtain ⟨a', cap', e, h1, _⟩ := h.ints ho hi
  rw [hc] at e
  cases e
  exact h1
end OrdC
/-- What order answers. -/
def OrderOut (W : World) (g n : Nat) (E : List (Int × Int)) (C : Nat → Value) (e : Ending) (w' : World) : Prop :=
  ∃ v O, e = .returned v ∧ w'.ownsRow W.heap.size 3 1 v (ord n E).length ((ord n E).map (Value.int .i64)) ∧ OrdW W g C O w'
theorem own_slice {w : World} {base : Nat} {e : TypeId} {v : Value} {n : Nat} {xs : List Value} (h : w.ownsRow base e 1 v n xs) : ∃ a cap, v = .slice a n cap := by
  rcases h.2 with ⟨e, h0⟩ | ⟨g', cap, cur, hv, _⟩
  · exact ⟨none, 0, by rw [e, h0]⟩
  · exact ⟨_, cap, hv⟩
theorem own_keep {w w' : World} {base : Nat} {e : TypeId} {v : Value} {n : Nat} {xs : List Value} (h : w.ownsRow base e 1 v n xs) (k : ∀ g, v.ownBlock = some g → w'.heap[g]? = w.heap[g]?) : w'.ownsRow base e 1 v n xs := by
  refine ⟨h.1, ?_⟩
  rcases h.2 with h0 | ⟨g, cap, cur, rfl, h1, hg, h2⟩
  · exact .inl h0
  · exact .inr ⟨g, cap, cur, rfl, h1, (k g rfl).trans hg, h2⟩
theorem cell_new2 (w : World) (a : Addr) (u x : Value) (t : TypeId) : ((w.setCell a u).alloc (.cells #[x] t)).cell? ⟨w.heap.size, 0, none⟩ = some x := by
  have := Own.cell_new (w.setCell a u) x t
  rwa [show (w.setCell a u).heap.size = w.heap.size by simp [World.setCell]] at this
theorem apart_len {g n m cap cap' : Nat} {u : Value} (h : Own.Apart (.slice (some ⟨g, 0, none⟩) n cap) u) : Own.Apart (.slice (some ⟨g, 0, none⟩) m cap') u := h
theorem inv_congr {n : Nat} {out Q : List Int} {O O' : Int → Int} (h : Inv n out Q O) (e : ∀ x, O' x = O x) : Inv n out Q O' := by
  rw [show O' = O from funext e]; exact h
theorem usrP_mem {E : List (Int × Int)} {x : Int} {i : Nat} (hi : i < (usrP E x).length) : (usrP E x).getD i 0 ∈ usrP E x := by
  rw [List.getD_eq_getElem?_getD, List.getElem?_eq_getElem hi]; exact List.getElem_mem _
theorem usrP_in {E : List (Int × Int)} {x u : Int} (h : u ∈ usrP E x) : ∃ e ∈ E, e.1 = u := by
  unfold usrP at h
  rw [List.mem_map] at h
  obtain ⟨e, he, rfl⟩ := h
  exact ⟨e, (List.mem_filter.1 he).1, rfl⟩
end Gra
end Go.Proofs.Ytjdkkldlghdojaa
