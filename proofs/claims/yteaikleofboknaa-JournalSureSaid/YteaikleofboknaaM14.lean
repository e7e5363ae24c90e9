/- Texts put together: JrM, JrO. -/
import Derived.Test.YteaikleofboknaaM13
import Derived.Test.YteaikleofboknaaM00
import Derived.Test.YteaikleofboknaaM04
import Derived.Laws.AppendOwnNone
import Derived.Deep.RegionHeld
set_option linter.all false
section
set_option maxRecDepth 100000
namespace Go.Proofs.Yteaikleofboknaa
open Go.RowKit Go.Great Go.Maps
namespace Jrn
open Frm (fits num put scan strs rows allS allE oks ok cats)
open In (strVals Strs)
open Dsk (below2 below_al below_dN DkIn PD Bx Dok FileIn newD namesV)
/-- A snapshot's cells. -/
def savedRow (S : SavedIn) (a : Option Addr) (cap : Nat) : Array Value := #[.int .i64 (S.gen : Int), .bool S.has, .string ⟨S.base.toArray⟩, .slice a S.recs.length cap]
/-- Records behind a row of one's own, in a region that draws its order. -/
theorem step_recs {P : Program} {ops : Array Oper} {o : Oper} {a : Act} {w : World} {K : Act → World → Prop} {Q : Exit → Act → World → Prop} {E : Prop} (hgd : o.guard = none) (s x : Operand) (t : TypeId)
    (ho : o.op = .call { callee := .builtin .append, args := #[s, x], argTypes := #[t, t] })
    (base : Nat) (e : TypeId) (i : TypeInfo) (z : Value) (ht : P.underlying t = some (.slice e)) (hi : P.info? e = some i) (hz : i.zero = some z)
    (hsize : i.size = 1) (hby : i.bytes = 16) (hzs : z.cells.size = 1)
    (v : Value) (n : Nat) (l : List ByteArray) (hs : a.eval s = v) (hown : w.ownsRow base e 1 v n (strVals l)) (ao : Option Addr) (m c : Nat) (r : List ByteArray) (hx : a.eval x = .slice ao m c) (hm : r.length = m) (hc : ao = none → c = 0)
    (hr : Strs w ao r) (h63 : n + m ≤ 1000000) (hbase : base ≤ w.heap.size)
    (h : ∀ v' w', w'.ownsRow base e 1 v' (n + m) (strVals (l ++ r)) → w.grownBy w' v.ownBlock → (∀ w0, Below base w0 w → Below base w0 w') → K (a.put o.dst v') w') :
    if Region.wanted o (yielded ops a.tmps) = true then Oper.wp P o a w K Q else E := by
  have hw : Region.wanted o (yielded ops a.tmps) = true := by simp [Region.wanted, hgd]
  rw [if_pos hw]
  have hBB : ∀ w', w.grownBy w' v.ownBlock → ∀ w0, Below base w0 w → Below base w0 w' := fun w' hg w0 hb => hb.grown hg hbase (Own.own_block hown (Nat.le_refl _))
  have hsv : strVals (l ++ r) = strVals l ++ strVals r := by simp [strVals]
  cases ao with
  | none =>
    have hm0 : m = 0 := by
      rcases Nat.eq_zero_or_pos m with h0 | h0
      · exact h0
      · obtain ⟨_, _, he, _⟩ := hr 0 (by omega)
        cases he
    subst hm0
    have hr0 : r = [] := List.length_eq_zero_iff.1 hm
    subst hr0
    rw [hc rfl] at hx
    have hrun := run_append_owned_none (P := P) (w := w) base t o.type e i 1 ht hi v n (strVals l) hown
    unfold Oper.wp
    simp [execOp, ho, resolve, invoke, builtin, hs, hx, hrun, Result.andThen]
    exact h v w (by simpa using hown) ⟨rfl, rfl, rfl, Nat.le_refl _, fun _ _ _ => rfl⟩ (fun _ h => h)
  | some ad =>
    refine wp_append_own w s x t ho base e i z 1 16 ht hi hz hsize hby hzs (by decide) v n (strVals l) hs hown ad m c (strVals r) hx (by simp [strVals, hm]) (fun j u hj => ?_) (fun u hu => ?_) (by unfold maxLen; omega) (by omega) hbase fun v' w' h2 h3 h4 => h v' w' (by rw [hsv]; exact h2) h3 (hBB w' h3)
    · have hjl : j < r.length := by
        have := (List.getElem?_eq_some_iff.1 hj).1
        simpa [strVals] using this
      obtain ⟨b, off, he, hb, hcell⟩ := hr j hjl
      cases he
      have e1 : (⟨b, off, none⟩ : Addr).add j = ⟨b, off + j, none⟩ := by unfold Addr.add; split <;> simp_all
      rw [e1, hcell]
      simp [strVals, hjl] at hj
      rw [List.getD_eq_getElem?_getD, List.getElem?_eq_getElem hjl]
      simp [hj]
    · simp [strVals] at hu
      obtain ⟨y, _, rfl⟩ := hu
      rfl
theorem wp_at {P : Program} {ops : Array Oper} {o : Oper} {a : Act} {K : Act → World → Prop} {Q : Exit → Act → World → Prop} {E : Prop} (X : World) (h : if Region.wanted o (yielded ops a.tmps) = true then Oper.wp P o a X K Q else E) : if Region.wanted o (yielded ops a.tmps) = true then Oper.wp P o a X K Q else E := h
/-- A row of one's own of no elements. -/
theorem own_empty {W : World} {T : TypeId} {x base : Nat} (h : W.heap[x]? = some (.cells #[] T)) (hb : base ≤ x) : W.ownsRow base T 1 (.slice (some ⟨x, 0, none⟩) 0 0) 0 (strVals []) :=
  ⟨rfl, Or.inr ⟨x, 0, #[], rfl, hb, h, Nat.le_refl _, Nat.zero_le _, rfl, rfl⟩⟩
theorem own_recs {W : World} {base : Nat} {T : TypeId} {v : Value} {l : List (List UInt8)} {A : ByteArray} (r : List UInt8) (h : W.ownsRow base T 1 v (0 + l.length + 1) (strVals ([] ++ rows l ++ [A]))) (hA : (⟨r.toArray⟩ : ByteArray) = A) :
    ∃ a cap, v = .slice a (l.length + 1) cap ∧ Strs W a (rows (l ++ [r])) ∧ (∀ x, a = some x → base ≤ x.block ∧ x.block < W.heap.size) ∧ (a = none → cap = 0) := by
  have er : [] ++ rows l ++ [A] = rows (l ++ [r]) := by rw [← hA]; simp [rows]
  have el : 0 + l.length + 1 = (rows (l ++ [r])).length := by rw [rows_length, List.length_append]; simp
  rw [er, el] at h
  obtain ⟨a, cap, e, hs⟩ := In.strs_of_own h
  have e2 : (rows (l ++ [r])).length = l.length + 1 := by rw [← el]; omega
  rw [e2] at e
  refine ⟨a, cap, e, hs, fun x hx => ?_, fun hn => ?_⟩
  · subst hx
    exact h.lt x.block (by rw [e]; rfl)
  · subst hn
    rcases h.2 with ⟨_, h0⟩ | ⟨g, c, cur, e3, _⟩
    · rw [e2] at h0; omega
    · rw [e] at e3; cases e3
/-- What an Append answers on a disk that goes on. -/
def AppRes (z : Int) (g m j : Nat) (S : SavedIn) (d : DkIn) (k B : Nat) (r : List UInt8) (V' : World) : Prop :=
  (z = 1 ∧ r = [] ∧ PD V' g m d.files.length d ∧ JR V' j g (S.gen : Int) (S.recs.length : Int) false) ∨
  (z = 4 ∧ PD V' g m d.files.length d ∧ JR V' j g (S.gen : Int) (S.recs.length : Int) false) ∨
  (z = 0 ∧ ∃ d', Open' d' { S with recs := S.recs ++ [r] } (k + 2) (B + 8 + r.length) ∧ Calm d' ∧ PD V' g m d'.files.length d' ∧ JR V' j g (S.gen : Int) ((S.recs.length : Int) + 1) false)
theorem app_any (V : World) (g m j : Nat) (S : SavedIn) (d : DkIn) (k B : Nat) (ho : Open' d S k B) (hc : Calm d) (hk : k < 800000) (hp : PD V g m d.files.length d) (hj : JR V j g (S.gen : Int) (S.recs.length : Int) false) (hjg : j ≠ g) (hjm : j ≠ m) (hr : S.recs.length ≤ 1000) (s : ByteArray) (hs : s.size ≤ 300) :
    Calls Try.prog 10 #[.pointer (some ⟨j, 0, none⟩), .string s] V fun e w' => ∃ z, e = .returned (.int .i64 z) ∧ Hid (AppRes z g m j S d k B s.data.toList w') ∧ Hid (Bj g m j V w') := by
  by_cases hf : fits s.size = true
  · refine (append_j V j g m k B d ⟨hp, ho.gr⟩ (by omega) (S.gen : Int) (S.recs.length : Int) (by omega) hj hjg hjm ho.goes s hf).mono fun e w' ⟨h1, h2⟩ => ⟨_, h1, ?_, h2.out.bj⟩
    have h3 := h2.out.pd
    have h4 := h2.out.jr
    rcases calm_write ho (by omega) hc s.data.toList (by rw [sz_list]; exact hf) with ⟨e1, -⟩ | ⟨e1, e2, e3, -⟩
    · rw [e1] at h3 h4 ⊢
      exact Or.inr (Or.inl ⟨rfl, h3, h4⟩)
    · rw [e1] at h4 ⊢
      exact Or.inr (Or.inr ⟨rfl, _, by rw [Nat.add_assoc]; exact e2, e3, h3, h4⟩)
  · have hf0 : fits s.size = false := by simpa using hf
    refine (append_arg V j g m _ d (S.gen : Int) (S.recs.length : Int) hj hp ho.goes s (by unfold maxLen; omega) hf0).mono fun e w' ⟨h1, h2⟩ => ⟨_, h1, Or.inl ⟨rfl, ?_, hp.below h2, hj.below h2⟩, Bj.below g m j h2⟩
    unfold fits at hf0
    rw [decide_eq_false_iff_not] at hf0
    exact List.eq_nil_of_length_eq_zero (by rw [sz_list]; omega)
/-- The records of what comes next, in blocks that are new. -/
def NewRecs (W wx : World) (xb : Nat) (row : Option Addr → Nat → Array Value) (l : List (List UInt8)) : Prop :=
  ∃ a2 cap2, wx.heap[xb]? = some (.cells (row a2 cap2) 33) ∧ Strs wx a2 (rows l) ∧ (∀ x, a2 = some x → W.heap.size ≤ x.block ∧ x.block < wx.heap.size) ∧ (a2 = none → cap2 = 0) ∧ W.grownBy wx (some xb)
theorem take_at {P : Program} {ops : Array Oper} {Q : Exit → Act → World → Prop} {md : Region.Mode} {S : World → Prop} {l : List Nat} {i : Nat} {oi : Oper} {v : Value} {fuel : Nat} {listed : Array Bool} {a : Act} {w : World} (t : Tmp) (hi : ops[i]? = some oi) (ht : oi.dst = some t)
    (hs : Region.noSelect ops = true) (hf : Region.free md ops listed i = true) (hr : (Region.ready md ops listed).contains i = true)
    (hd : l.all (fun j => (Ord.desc md ops i).contains j) = true) (hw : Ord.waits md ops (Ord.among (Ord.desc md ops i)) i = true) (hl : (Ord.desc md ops i).all (fun j => decide (j < listed.size)) = true) (ha : Ord.ahead (Ord.among (Ord.desc md ops i)) listed.size listed = true)
    (hQ : ∀ c a w, Q (.panic c) (a.put oi.dst v) w → Q (.panic c) a w) (hy : YieldsIf P ops S oi v a) (hS : S w)
    (h : Ord.wpAnyU P md ops Q S (Ord.among l) fuel (listed.setIfInBounds i true) (a.put (some t) v) w) : Ord.wpAnyU P md ops Q S (Ord.among l) (fuel + 1) listed a w :=
  Ord.wpAnyU_take hi hs hf hr hd hw hl ha hQ hy hS (by rw [ht]; exact h)
/-- What lies while acts are done. -/
structure FS (w W : World) (g m nb j : Nat) (S : SavedIn) (d : DkIn) (a : Option Addr) (cap k B q : Nat) : Prop where
  op : Open' d S k B
  calm : Calm d
  pd : PD W g m d.files.length d
  jr : JR W j g (S.gen : Int) (S.recs.length : Int) false
  now : W.heap[nb]? = some (.cells (savedRow S a cap) 33)
  rcs : Strs W a (rows S.recs)
  own : S.recs ≠ [] → ∀ x, a = some x → x.block < W.heap.size ∧ x.block ≠ g ∧ x.block ≠ m ∧ x.block ≠ j ∧ x.block ≠ nb
  nil : a = none → cap = 0
  bel : Below w.heap.size w W
  lo : w.heap.size ≤ g ∧ w.heap.size ≤ m ∧ w.heap.size ≤ j ∧ w.heap.size ≤ nb
  ne : j ≠ g ∧ j ≠ m ∧ nb ≠ g ∧ nb ≠ m ∧ nb ≠ j
  few : S.gen ≤ q ∧ S.recs.length ≤ q ∧ S.base.length ≤ 12000
  k' : k ≤ 3 + 20 * q
  B' : B ≤ 17 + 13000 * q
theorem FS.cells {w W : World} {g m nb j : Nat} {S : SavedIn} {d : DkIn} {a : Option Addr} {cap k B q : Nat} (h : FS w W g m nb j S d a cap k B q) :
    W.cell? ⟨nb, 0, none⟩ = some (.int .i64 (S.gen : Int)) ∧ W.cell? ⟨nb, 1, none⟩ = some (.bool S.has) ∧ W.cell? ⟨nb, 2, none⟩ = some (.string ⟨S.base.toArray⟩) ∧ W.cell? ⟨nb, 3, none⟩ = some (.slice a S.recs.length cap) ∧ nb < W.heap.size :=
  ⟨cell_of_row W _ 0 _ _ _ h.now, cell_of_row W _ 1 _ _ _ h.now, cell_of_row W _ 2 _ _ _ h.now, cell_of_row W _ 3 _ _ _ h.now, (Array.getElem?_eq_some_iff.1 h.now).1⟩
theorem strs_one1 {W : World} {y : Nat} {A : ByteArray} (hc : W.cell? ⟨y, 0, none⟩ = some (.string A)) : Strs W (some ⟨y, 0, none⟩) [A] := fun i hi => by
  have h0 : i = 0 := by simpa using hi
  subst h0
  exact ⟨y, 0, rfl, World.block_lt_of_cell? _ _ hc, hc⟩
/-- What lies behind an act. -/
structure PS (w W : World) (g m nb ab j : Nat) (AC : Array Value) (S T NX : SavedIn) (d : DkIn) (a : Option Addr) (cap : Nat) (a2 : Option Addr) (cap2 k B q : Nat) : Prop where
  op : Open' d T k B
  calm : Calm d
  pd : PD W g m d.files.length d
  jr : JR W j g (T.gen : Int) (T.recs.length : Int) false
  now : W.heap[nb]? = some (.cells (savedRow S a cap) 33)
  nxt : W.heap[ab + 1]? = some (.cells (savedRow NX a2 cap2) 33)
  act : W.heap[ab]? = some (.cells AC 40)
  rcs : Strs W a (rows S.recs)
  rcs2 : Strs W a2 (rows NX.recs)
  own : S.recs ≠ [] → ∀ x, a = some x → x.block < W.heap.size ∧ x.block ≠ g ∧ x.block ≠ m ∧ x.block ≠ j ∧ x.block ≠ nb
  own2 : NX.recs ≠ [] → ∀ x, a2 = some x → x.block < W.heap.size ∧ x.block ≠ g ∧ x.block ≠ m ∧ x.block ≠ j ∧ x.block ≠ nb
  nil : a = none → cap = 0
  nil2 : a2 = none → cap2 = 0
  bel : Below w.heap.size w W
  lo : w.heap.size ≤ g ∧ w.heap.size ≤ m ∧ w.heap.size ≤ j ∧ w.heap.size ≤ nb
  ne : j ≠ g ∧ j ≠ m ∧ nb ≠ g ∧ nb ≠ m ∧ nb ≠ j
  few : S.gen ≤ q + 1 ∧ S.recs.length ≤ q + 1 ∧ S.base.length ≤ 12000
  few2 : NX.gen ≤ q + 1 ∧ NX.recs.length ≤ q + 1 ∧ NX.base.length ≤ 12000
  k' : k ≤ 3 + 20 * (q + 1)
  B' : B ≤ 17 + 13000 * (q + 1)
/-- How an act ended. -/
def Went (z kind : Int) (arg : List UInt8) (S T NX : SavedIn) : Prop := (z = 0 ∧ T = NX) ∨ (z = 4 ∧ T = S) ∨ (z = 1 ∧ T = S ∧ kind = 1 ∧ arg = [])
theorem PS.cells {w W : World} {g m nb ab j : Nat} {AC : Array Value} {S T NX : SavedIn} {d : DkIn} {a : Option Addr} {cap : Nat} {a2 : Option Addr} {cap2 k B q : Nat} (h : PS w W g m nb ab j AC S T NX d a cap a2 cap2 k B q) :
    nb < W.heap.size ∧ ab + 1 < W.heap.size ∧ (∀ i, W.cell? ⟨nb, i, none⟩ = (savedRow S a cap)[i]?) ∧ (∀ i, W.frozen? ⟨nb, i, none⟩ = false) ∧ (∀ i, W.cell? ⟨ab + 1, i, none⟩ = (savedRow NX a2 cap2)[i]?) ∧ (∀ i, W.cell? ⟨ab, i, none⟩ = AC[i]?) :=
  ⟨(Array.getElem?_eq_some_iff.1 h.now).1, (Array.getElem?_eq_some_iff.1 h.nxt).1, fun i => cell_of_row W _ i _ _ _ h.now, fun i => frozen_of_row W _ i _ _ h.now, fun i => cell_of_row W _ i _ _ _ h.nxt, fun i => cell_of_row W _ i _ _ _ h.act⟩
/-- What comes next is what is now. -/
theorem PS.next {w W : World} {g m nb ab j : Nat} {AC : Array Value} {S T : SavedIn} {d : DkIn} {a : Option Addr} {cap : Nat} {a2 : Option Addr} {cap2 k B q : Nat} (h : PS w W g m nb ab j AC S T T d a cap a2 cap2 k B q) (V : World)
    (e : V = (((W.setCell ⟨nb, 0, none⟩ (.int .i64 (T.gen : Int))).setCell ⟨nb, 1, none⟩ (.bool T.has)).setCell ⟨nb, 2, none⟩ (.string ⟨T.base.toArray⟩)).setCell ⟨nb, 3, none⟩ (.slice a2 T.recs.length cap2)) : FS w V g m nb j T d a2 cap2 k B (q + 1) := by
  obtain ⟨s1, s2, s3⟩ := set4_heap W nb (.int .i64 (T.gen : Int)) (.bool T.has) (.string ⟨T.base.toArray⟩) (.slice a2 T.recs.length cap2) _ _ _ _ _ h.now
  rw [← e] at s1 s2 s3
  obtain ⟨n1, n2, n3, n4, n5⟩ := h.ne
  have hl := h.lo
  have hos : V.os = W.os ∧ V.tape = W.tape ∧ V.output = W.output := by rw [e]; exact ⟨rfl, rfl, rfl⟩
  have gr : W.grownBy V (some nb) := ⟨hos.1, hos.2.1, hos.2.2, by rw [s3]; exact Nat.le_refl _, fun k hk hne => s2 k fun e => hne (by rw [e])⟩
  refine ⟨h.op, h.calm, h.pd.grown gr (by intro e; cases e; exact n3 rfl) (by intro e; cases e; exact n4 rfl), ⟨h.jr.row.of_block (s2 j fun e => n5 e.symm)⟩, s1, ?_, fun hn x hx => by rw [s3]; exact h.own2 hn x hx, h.nil2, ⟨hos.1.trans h.bel.os, hos.2.1.trans h.bel.tape, hos.2.2.trans h.bel.output, by rw [s3]; exact h.bel.size, fun k hk => (s2 k (by omega)).trans (h.bel.block k hk)⟩, h.lo, h.ne, h.few2, h.k', h.B'⟩
  by_cases hn : T.recs = []
  · rw [hn]; exact fun i hi => absurd hi (Nat.not_lt_zero i)
  · exact strs_keep h.rcs2 fun x hx => by
      obtain ⟨p1, p2, p3, p4, p5⟩ := h.own2 hn x hx
      exact ⟨s2 _ p5, by rw [s3]; exact p1⟩
/-- It stays as it is. -/
theorem PS.stay {w W : World} {g m nb ab j : Nat} {AC : Array Value} {S NX : SavedIn} {d : DkIn} {a : Option Addr} {cap : Nat} {a2 : Option Addr} {cap2 k B q : Nat} (h : PS w W g m nb ab j AC S S NX d a cap a2 cap2 k B q) : FS w W g m nb j S d a cap k B (q + 1) :=
  ⟨h.op, h.calm, h.pd, h.jr, h.now, h.rcs, h.own, h.nil, h.bel, h.lo, h.ne, h.few, h.k', h.B'⟩
/-- What lies behind an act, made of its parts. -/
theorem PS_mk {w wr W : World} {g m nb j j' : Nat} {AC : Array Value} {S T NX : SavedIn} {d d' : DkIn} {a a2 : Option Addr} {cap cap2 k B k' B' q : Nat} (h : FS w wr g m nb j S d a cap k B q) (hb : Bj g m j wr W) (hj' : j' = j ∨ wr.heap.size ≤ j') (op : Open' d' T k' B') (calm : Calm d') (pd : PD W g m d'.files.length d') (jr : JR W j' g (T.gen : Int) (T.recs.length : Int) false)
    (nxt : W.heap[wr.heap.size + 1]? = some (.cells (savedRow NX a2 cap2) 33)) (act : W.heap[wr.heap.size]? = some (.cells AC 40)) (rcs2 : Strs W a2 (rows NX.recs)) (own2 : NX.recs ≠ [] → ∀ x, a2 = some x → x.block < W.heap.size ∧ x.block ≠ g ∧ x.block ≠ m ∧ x.block ≠ j' ∧ x.block ≠ nb) (nil2 : a2 = none → cap2 = 0)
    (few2 : NX.gen ≤ q + 1 ∧ NX.recs.length ≤ q + 1 ∧ NX.base.length ≤ 12000) (hk : k' ≤ k + 20) (hB : B' ≤ B + 13000) : PS w W g m nb wr.heap.size j' AC S T NX d' a cap a2 cap2 k' B' q := by
  obtain ⟨h1, h2, h3, h4⟩ := h.lo
  obtain ⟨n1, n2, n3, n4, n5⟩ := h.ne
  have hgl := h.pd.lt
  have hjl := h.jr.lt
  have hnl := h.cells.2.2.2.2
  have hf := h.few
  have hk0 := h.k'
  have hB0 := h.B'
  have hwr := h.bel.size
  refine ⟨op, calm, pd, jr, (hb.block nb hnl n3 n4 n5).trans h.now, nxt, act, ?_, rcs2, fun hn x hx => ?_, own2, h.nil, nil2, ⟨hb.os.trans h.bel.os, hb.tape.trans h.bel.tape, hb.output.trans h.bel.output, Nat.le_trans h.bel.size hb.size, fun k hk => (hb.block k (Nat.lt_of_lt_of_le hk hwr) (by omega) (by omega) (by omega)).trans (h.bel.block k hk)⟩, ⟨h1, h2, by omega, h4⟩, ⟨by omega, by omega, n3, n4, by omega⟩, ⟨by omega, by omega, hf.2.2⟩, few2, by omega, by omega⟩
  · by_cases hn : S.recs = []
    · rw [hn]; exact fun i hi => absurd hi (Nat.not_lt_zero i)
    · exact strs_keep h.rcs fun x hx => by
        obtain ⟨p1, p2, p3, p4, p5⟩ := h.own hn x hx
        exact ⟨hb.block x.block p1 p2 p3 p4, Nat.lt_of_lt_of_le p1 hb.size⟩
  · obtain ⟨p1, p2, p3, p4, p5⟩ := h.own hn x hx
    exact ⟨Nat.lt_of_lt_of_le p1 hb.size, p2, p3, by omega, p5⟩
/-- Behind a record: what comes next is made. -/
theorem PS_app {w wr w5 w8 V8 : World} {g m nb j : Nat} {AC : Array Value} {S : SavedIn} {d : DkIn} {a a8 : Option Addr} {cap c8 k B q : Nat} {z : Int} {arg : List UInt8} (h : FS w wr g m nb j S d a cap k B q) (hb : Bj g m j wr w5) (hap : AppRes z g m j S d k B arg w5) (harg : arg.length ≤ 300)
    (x5 : w5.heap[wr.heap.size + 1]? = some (.cells (savedRow S a cap) 33)) (a5 : w5.heap[wr.heap.size]? = some (.cells AC 40)) (hb8 : Below w5.heap.size w5 w8)
    (hS8 : Strs w8 a8 (rows (S.recs ++ [arg]))) (hW8 : ∀ x, a8 = some x → w5.heap.size ≤ x.block ∧ x.block < w8.heap.size) (hq8 : a8 = none → c8 = 0)
    (e : V8 = (((w8.setCell ⟨wr.heap.size + 1, 0, none⟩ (.int .i64 (S.gen : Int))).setCell ⟨wr.heap.size + 1, 1, none⟩ (.bool S.has)).setCell ⟨wr.heap.size + 1, 2, none⟩ (.string ⟨S.base.toArray⟩)).setCell ⟨wr.heap.size + 1, 3, none⟩ (.slice a8 (S.recs.length + 1) c8)) :
    ∃ T dd k' B', Went z 1 arg S T { S with recs := S.recs ++ [arg] } ∧ PS w V8 g m nb wr.heap.size j AC S T { S with recs := S.recs ++ [arg] } dd a cap a8 c8 k' B' q := by
  have hgl := h.pd.lt
  have hjl := h.jr.lt
  have hnl := h.cells.2.2.2.2
  have hxl : wr.heap.size + 1 < w5.heap.size := (Array.getElem?_eq_some_iff.1 x5).1
  obtain ⟨s1, s2, s3⟩ := set4_heap w8 (wr.heap.size + 1) (.int .i64 (S.gen : Int)) (.bool S.has) (.string ⟨S.base.toArray⟩) (.slice a8 (S.recs.length + 1) c8) _ _ _ _ _ ((hb8.block _ hxl).trans x5)
  rw [← e] at s1 s2 s3
  have hos : V8.os = w8.os ∧ V8.tape = w8.tape ∧ V8.output = w8.output := by rw [e]; exact ⟨rfl, rfl, rfl⟩
  have gr : w8.grownBy V8 (some (wr.heap.size + 1)) := ⟨hos.1, hos.2.1, hos.2.2, by rw [s3]; exact Nat.le_refl _, fun k hk hne => s2 k fun e => hne (by rw [e])⟩
  have hbV : Bj g m j wr V8 := ⟨hos.1.trans (hb8.os.trans hb.os), hos.2.1.trans (hb8.tape.trans hb.tape), hos.2.2.trans (hb8.output.trans hb.output), by rw [s3]; exact Nat.le_trans hb.size hb8.size, fun k hk h1 h2 h3 => (s2 k (by omega)).trans ((hb8.block k (Nat.lt_of_lt_of_le hk hb.size)).trans (hb.block k hk h1 h2 h3))⟩
  have pdV : ∀ d', PD w5 g m d'.files.length d' → PD V8 g m d'.files.length d' := fun d' hp => (hp.below hb8).grown gr (by intro e; cases e; omega) (by intro e; cases e; omega)
  have jrV : ∀ c, JR w5 j g (S.gen : Int) c false → JR V8 j g (S.gen : Int) c false := fun c hj => ⟨(hj.below hb8).row.of_block (s2 j (by omega))⟩
  have nx : V8.heap[wr.heap.size + 1]? = some (.cells (savedRow { S with recs := S.recs ++ [arg] } a8 c8) 33) := by
    rw [s1, savedRow, List.length_append]
    rfl
  have ac : V8.heap[wr.heap.size]? = some (.cells AC 40) := (s2 _ (by omega)).trans ((hb8.block _ (by omega)).trans a5)
  have hs : Strs V8 a8 (rows (S.recs ++ [arg])) := strs_keep hS8 fun x hx => by
    obtain ⟨p1, p2⟩ := hW8 x hx
    exact ⟨s2 _ (by omega), by rw [s3]; exact p2⟩
  have hw : ∀ x, a8 = some x → x.block < V8.heap.size ∧ x.block ≠ g ∧ x.block ≠ m ∧ x.block ≠ j ∧ x.block ≠ nb := fun x hx => by
    obtain ⟨p1, p2⟩ := hW8 x hx
    exact ⟨by rw [s3]; exact p2, by omega, by omega, by omega, by omega⟩
  have hf := h.few
  have hl : (S.recs ++ [arg]).length = S.recs.length + 1 := by rw [List.length_append]; rfl
  have f2 : S.gen ≤ q + 1 ∧ (S.recs ++ [arg]).length ≤ q + 1 ∧ S.base.length ≤ 12000 := ⟨by omega, by omega, hf.2.2⟩
  rcases hap with ⟨rfl, hr, hp, hj⟩ | ⟨rfl, hp, hj⟩ | ⟨rfl, d', ho, hc, hp, hj⟩
  · exact ⟨S, d, k, B, Or.inr (Or.inr ⟨rfl, rfl, rfl, hr⟩), PS_mk h hbV (Or.inl rfl) h.op h.calm (pdV d hp) (jrV _ hj) nx ac hs (fun _ => hw) hq8 f2 (by omega) (by omega)⟩
  · exact ⟨S, d, k, B, Or.inr (Or.inl ⟨rfl, rfl⟩), PS_mk h hbV (Or.inl rfl) h.op h.calm (pdV d hp) (jrV _ hj) nx ac hs (fun _ => hw) hq8 f2 (by omega) (by omega)⟩
  · refine ⟨{ S with recs := S.recs ++ [arg] }, d', _, _, Or.inl ⟨rfl, rfl⟩, PS_mk h hbV (Or.inl rfl) ho hc (pdV d' hp) ?_ nx ac hs (fun _ => hw) hq8 f2 (by omega) (by omega)⟩
    have := jrV _ hj
    show JR V8 j g (S.gen : Int) (((S.recs ++ [arg]).length : Nat) : Int) false
    rw [hl]
    exact this
/-- What a Snapshot answers on a disk that goes on. -/
def SnapRes (z : Int) (g m j : Nat) (S : SavedIn) (k B : Nat) (base : List UInt8) (V' : World) : Prop :=
  ∃ d', Calm d' ∧ PD V' g m d'.files.length d' ∧
    ((z = 4 ∧ Open' d' S (k + 8) (B + 12100) ∧ JR V' j g (S.gen : Int) (S.recs.length : Int) false) ∨
     (z = 0 ∧ Open' d' ⟨S.gen + 1, true, base, []⟩ (k + 8) (B + 12100) ∧ JR V' j g ((S.gen : Int) + 1) 0 false))
theorem snap_any (V : World) (g m j : Nat) (S : SavedIn) (d : DkIn) (k B : Nat) (ho : Open' d S k B) (hc : Calm d) (hk : k < 90000) (hp : PD V g m d.files.length d) (hj : JR V j g (S.gen : Int) (S.recs.length : Int) false) (hjg : j ≠ g) (hjm : j ≠ m) (hg : S.gen ≤ 1000) (s : ByteArray) (hs : s.size ≤ 12000) :
    Calls Try.prog 12 #[.pointer (some ⟨j, 0, none⟩), .string s] V fun e w' => ∃ z, e = .returned (.int .i64 z) ∧ Hid (SnapRes z g m j S k B s.data.toList w') ∧ Hid (Bj g m j V w') := by
  refine (snap_j V j g m k B d ⟨hp, ho.gr⟩ (by omega) S.gen (by omega) (S.recs.length : Int) hj hjg hjm ho.goes s (by omega)).mono fun e w' ⟨h1, h2⟩ => ⟨_, h1, ?_, h2.out.bj⟩
  have h3 := h2.out.pd
  have h4 := h2.out.jr
  obtain ⟨h5, h6, -⟩ := calm_snap ho (by omega) hc s.data.toList 12049 (by rw [sz_list]; omega)
  refine ⟨_, h6, h3, ?_⟩
  rcases h5 with ⟨e1, e2, -⟩ | ⟨e1, e2⟩
  · rw [e1] at h4 ⊢
    exact Or.inl ⟨rfl, e2.mono (Nat.le_refl _) (by omega), h4⟩
  · rw [e1] at h4 ⊢
    exact Or.inr ⟨rfl, e2.mono (Nat.le_refl _) (by omega), h4⟩
/-- Behind a snapshot. -/
theorem PS_snap {w wr V V1 W : World} {g m nb j : Nat} {AC : Array Value} {S : SavedIn} {d : DkIn} {a : Option Addr} {cap k B q : Nat} {z kind : Int} {arg base : List UInt8} (h : FS w wr g m nb j S d a cap k B q) (hbV : Below wr.heap.size wr V)
    (vX : V.heap[wr.heap.size + 1]? = some (.cells (savedRow S a cap) 33)) (vA : V.heap[wr.heap.size]? = some (.cells AC 40)) (hV1 : Below V.heap.size V V1)
    (V2 : World) (e : V2 = (((V1.setCell ⟨wr.heap.size + 1, 0, none⟩ (.int .i64 ((S.gen : Int) + 1))).setCell ⟨wr.heap.size + 1, 1, none⟩ (.bool true)).setCell ⟨wr.heap.size + 1, 2, none⟩ (.string ⟨base.toArray⟩)).setCell ⟨wr.heap.size + 1, 3, none⟩ (.slice none 0 0)) (hb : Bj g m j V2 W) (hs : SnapRes z g m j S k B base W) (hl : base.length ≤ 12000) :
    ∃ T dd k' B', Went z kind arg S T ⟨S.gen + 1, true, base, []⟩ ∧ PS w W g m nb wr.heap.size j AC S T ⟨S.gen + 1, true, base, []⟩ dd a cap none 0 k' B' q := by
  have hgl := h.pd.lt
  have hjl := h.jr.lt
  have hnl := h.cells.2.2.2.2
  have hxl : wr.heap.size + 1 < V.heap.size := (Array.getElem?_eq_some_iff.1 vX).1
  obtain ⟨s1, s2, s3⟩ := set4_heap V1 (wr.heap.size + 1) (.int .i64 ((S.gen : Int) + 1)) (.bool true) (.string ⟨base.toArray⟩) (.slice none 0 0) _ _ _ _ _ ((hV1.block _ hxl).trans vX)
  rw [← e] at s1 s2 s3
  have hos : V2.os = V1.os ∧ V2.tape = V1.tape ∧ V2.output = V1.output := by rw [e]; exact ⟨rfl, rfl, rfl⟩
  have hsz : wr.heap.size + 1 < V2.heap.size := by rw [s3]; have := hV1.size; omega
  have hbW : Bj g m j wr W := ⟨hb.os.trans (hos.1.trans (hV1.os.trans hbV.os)), hb.tape.trans (hos.2.1.trans (hV1.tape.trans hbV.tape)), hb.output.trans (hos.2.2.trans (hV1.output.trans hbV.output)), by have := hb.size; omega, fun k hk h1 h2 h3 => (hb.block k (by omega) h1 h2 h3).trans ((s2 k (by omega)).trans ((hV1.block k (by omega)).trans (hbV.block k hk)))⟩
  have nx : W.heap[wr.heap.size + 1]? = some (.cells (savedRow ⟨S.gen + 1, true, base, []⟩ none 0) 33) := (hb.block _ hsz (by omega) (by omega) (by omega)).trans s1
  have ac : W.heap[wr.heap.size]? = some (.cells AC 40) := (hb.block _ (by omega) (by omega) (by omega) (by omega)).trans ((s2 _ (by omega)).trans ((hV1.block _ (by omega)).trans vA))
  have hf := h.few
  obtain ⟨d', hc, hp, hs⟩ := hs
  rcases hs with ⟨rfl, ho, hj⟩ | ⟨rfl, ho, hj⟩
  · exact ⟨S, d', _, _, Or.inr (Or.inl ⟨rfl, rfl⟩), PS_mk h hbW (Or.inl rfl) ho hc hp hj nx ac (fun i hi => absurd hi (Nat.not_lt_zero i)) (fun hn => absurd rfl hn) (fun _ => rfl) ⟨by show S.gen + 1 ≤ q + 1; omega, Nat.zero_le _, hl⟩ (by omega) (by omega)⟩
  · exact ⟨_, d', _, _, Or.inl ⟨rfl, rfl⟩, PS_mk h hbW (Or.inl rfl) ho hc hp hj nx ac (fun i hi => absurd hi (Nat.not_lt_zero i)) (fun hn => absurd rfl hn) (fun _ => rfl) ⟨by show S.gen + 1 ≤ q + 1; omega, Nat.zero_le _, hl⟩ (by omega) (by omega)⟩
/-- Behind an opening. -/
theorem PS_open {w wr V W : World} {g m nb j j' : Nat} {AC : Array Value} {S : SavedIn} {d : DkIn} {a : Option Addr} {cap k B q : Nat} {kind : Int} {arg : List UInt8} (h : FS w wr g m nb j S d a cap k B q) (hbV : Below wr.heap.size wr V)
    (vX : V.heap[wr.heap.size + 1]? = some (.cells (savedRow S a cap) 33)) (vA : V.heap[wr.heap.size]? = some (.cells AC 40)) (hb : Bx g m V W) (hj' : V.heap.size ≤ j') (pd : PD W g m (openV d S.gen).2.files.length (openV d S.gen).2) (jr : JR W j' g (S.gen : Int) (S.recs.length : Int) false) (hq : q ≤ 30) :
    Went 0 kind arg S S S ∧ PS w W g m nb wr.heap.size j' AC S S S (openV d S.gen).2 a cap a cap (k + 3) (B + 17) q := by
  have hgl := h.pd.lt
  have hjl := h.jr.lt
  have hnl := h.cells.2.2.2.2
  have hxl : wr.heap.size + 1 < V.heap.size := (Array.getElem?_eq_some_iff.1 vX).1
  have hf := h.few
  have hk := h.k'
  obtain ⟨e1, e2, e3, e4⟩ := calm_open h.op.rest h.op.gr (by omega) (by omega) h.op.room h.calm
  have hbW : Bj g m j wr W := Bj.of j ((Bx.below hbV).trans hb)
  refine ⟨Or.inl ⟨rfl, rfl⟩, PS_mk h hbW (Or.inr (by omega)) e2 e3 pd jr ((hb.block _ hxl (by omega) (by omega)).trans vX) ((hb.block _ (by omega) (by omega) (by omega)).trans vA) ?_ (fun hn x hx => ?_) h.nil ⟨by omega, by omega, hf.2.2⟩ (by omega) (by omega)⟩
  · by_cases hn : S.recs = []
    · rw [hn]; exact fun i hi => absurd hi (Nat.not_lt_zero i)
    · exact strs_keep h.rcs fun x hx => by
        obtain ⟨p1, p2, p3, p4, p5⟩ := h.own hn x hx
        exact ⟨hbW.block x.block p1 p2 p3 p4, Nat.lt_of_lt_of_le p1 hbW.size⟩
  · obtain ⟨p1, p2, p3, p4, p5⟩ := h.own hn x hx
    exact ⟨Nat.lt_of_lt_of_le p1 hbW.size, p2, p3, by omega, p5⟩
end Jrn
end Go.Proofs.Yteaikleofboknaa
end
section
set_option maxRecDepth 100000
namespace Go.Proofs.Yteaikleofboknaa
open Go.RowKit Go.Great Go.Maps
namespace Jrn
open Frm (fits num put scan strs rows allS allE oks ok cats)
open In (strVals Strs)
open Dsk (below2 below_al below_dN DkIn PD Bx Dok FileIn newD namesV crashV fuseV)
theorem takeH {P : Program} {ops : Array Oper} {Q : Exit → Act → World → Prop} {md : Region.Mode} {S : World → Prop} {i : Nat} {oi : Oper} {v : Value} {fuel : Nat} {listed : Array Bool} {a : Act} {w : World} (t : Tmp) (hi : ops[i]? = some oi) (ht : oi.dst = some t)
    (hs : Region.noSelect ops = true) (hf : Region.free md ops listed i = true) (hr : (Region.ready md ops listed).contains i = true)
    (hQ : ∀ c a w, Q (.panic c) (a.put oi.dst v) w → Q (.panic c) a w) (hy : YieldsIf P ops S oi v a) (hS : S w)
    (h : wpAnyH P md ops Q S fuel (listed.setIfInBounds i true) (a.put (some t) v) w) : wpAnyH P md ops Q S (fuel + 1) listed a w :=
  wpAnyH_take hi hs hf hr hQ hy hS (by rw [ht]; exact h)
/-- One of two. -/
def Two (S T : SavedIn) : SavedIn → Prop := fun X => X = S ∨ X = T
/-- A fuse changes nothing of what lies. -/
theorem Rest.fuse {d : DkIn} {S : SavedIn} (h : Rest d S) (z : Int) (b : Bool) : Rest (fuseV d z b) S := ⟨h.cr.congr rfl rfl, h.live, h.sure⟩
/-- An opening behind a crash. -/
theorem open_again {d : DkIn} {S : SavedIn} {A : SavedIn → Prop} {k B : Nat} (hA : A S) (h : Rest d S) (hG : Gr d k B) (hk : k ≤ 700000) (hB : B + 17 ≤ 1048576) (hr : d.room = 1048576) (hg : S.gen ≤ 1000000) :
    Gr (openV d S.gen).2 (k + 3) (B + 17) ∧ (openV d S.gen).2.room = 1048576 ∧ (((openV d S.gen).1 = 0 ∧ Open' (openV d S.gen).2 S (k + 3) (B + 17)) ∨ ((openV d S.gen).1 = 14 ∧ d.last ≠ 0 ∧ Cr (openV d S.gen).2 A)) := by
  have hb := hG.by'
  have hE := open_end hG h (by omega) (by omega)
  have hG2 := gr_open hG (by omega) S.gen
  refine ⟨hG2, hE.room.trans hr, ?_⟩
  rcases hE.ends with ⟨h1, h2, -, T, rfl, h4⟩ | ⟨h1, h2, h3, h4⟩
  · exact Or.inl ⟨h1, h4, h2, hG2⟩
  · exact Or.inr ⟨h1, h3, h4.mono fun T e => by rw [e]; exact hA⟩
/-- What lies while a disk is opened again. -/
structure AS (w W : World) (g m : Nat) (r0 r1 r2 r3 : Array Value) (d : DkIn) (A : SavedIn → Prop) (k B : Nat) : Prop where
  cr : Cr d A
  gr : Gr d k B
  room : d.room = 1048576
  pd : PD W g m d.files.length d
  bx : Bx g m w W
  lt : g < w.heap.size ∧ m < w.heap.size
  b0 : W.heap[w.heap.size]? = some (.cells r0 40)
  b1 : W.heap[w.heap.size + 1]? = some (.cells r1 33)
  b2 : W.heap[w.heap.size + 2]? = some (.cells r2 33)
  b3 : W.heap[w.heap.size + 3]? = some (.cells r3 33)
theorem AS.start (w : World) (g m : Nat) (r0 r1 r2 r3 : Array Value) (d : DkIn) (A : SavedIn → Prop) (k B : Nat) (hc : Cr d A) (hG : Gr d k B) (hr : d.room = 1048576) (hp : PD w g m d.files.length d) : AS w ((((w.alloc (.cells r0 40)).alloc (.cells r1 33)).alloc (.cells r2 33)).alloc (.cells r3 33)) g m r0 r1 r2 r3 d A (k + 3 * 0) (B + 17 * 0) := by
  generalize h1 : w.alloc (.cells r0 40) = w1
  generalize h2 : w1.alloc (.cells r1 33) = w2
  generalize h3 : w2.alloc (.cells r2 33) = w3
  generalize h4 : w3.alloc (.cells r3 33) = w4
  have s1 : w1.heap.size = w.heap.size + 1 := by rw [← h1]; simp
  have s2 : w2.heap.size = w1.heap.size + 1 := by rw [← h2]; simp
  have s3 : w3.heap.size = w2.heap.size + 1 := by rw [← h3]; simp
  have n1 : w1.heap[w.heap.size]? = some (.cells r0 40) := by rw [← h1]; exact Own.heap_new _ _
  have n2 : w2.heap[w1.heap.size]? = some (.cells r1 33) := by rw [← h2]; exact Own.heap_new _ _
  have n3 : w3.heap[w2.heap.size]? = some (.cells r2 33) := by rw [← h3]; exact Own.heap_new _ _
  have n4 : w4.heap[w3.heap.size]? = some (.cells r3 33) := by rw [← h4]; exact Own.heap_new _ _
  have b1 : Below w.heap.size w w1 := by rw [← h1]; exact below_al (Below.refl _ _) _
  have b2 : Below w1.heap.size w1 w2 := by rw [← h2]; exact below_al (Below.refl _ _) _
  have b3 : Below w2.heap.size w2 w3 := by rw [← h3]; exact below_al (Below.refl _ _) _
  have b4 : Below w3.heap.size w3 w4 := by rw [← h4]; exact below_al (Below.refl _ _) _
  have hb := below2 (below2 (below2 b1 b2) b3) b4
  refine ⟨hc, hG, hr, hp.below hb, Bx.below hb, hp.lt, ?_, ?_, ?_, ?_⟩
  · exact (b4.block _ (by omega)).trans ((b3.block _ (by omega)).trans ((b2.block _ (by omega)).trans n1))
  · rw [← s1]; exact (b4.block _ (by omega)).trans ((b3.block _ (by omega)).trans n2)
  · rw [show w.heap.size + 2 = w2.heap.size by omega]; exact (b4.block _ (by omega)).trans n3
  · rw [show w.heap.size + 3 = w3.heap.size by omega]; exact n4
theorem AS.below {w W V : World} {g m : Nat} {r0 r1 r2 r3 : Array Value} {d : DkIn} {A : SavedIn → Prop} {k B : Nat} (h : AS w W g m r0 r1 r2 r3 d A k B) (hb : Below W.heap.size W V) : AS w V g m r0 r1 r2 r3 d A k B := by
  have hl := (Array.getElem?_eq_some_iff.1 h.b3).1
  exact ⟨h.cr, h.gr, h.room, h.pd.below hb, h.bx.trans (Bx.below hb), h.lt, (hb.block _ (by omega)).trans h.b0, (hb.block _ (by omega)).trans h.b1, (hb.block _ (by omega)).trans h.b2, (hb.block _ (by omega)).trans h.b3⟩
theorem AS.step {w W V : World} {g m : Nat} {r0 r1 r2 r3 : Array Value} {d d' : DkIn} {A A' : SavedIn → Prop} {k B k' B' : Nat} (h : AS w W g m r0 r1 r2 r3 d A k B) (hb : Bx g m W V) (hp : PD V g m d'.files.length d') (hc : Cr d' A') (hG : Gr d' k' B') (hr : d'.room = 1048576) : AS w V g m r0 r1 r2 r3 d' A' k' B' := by
  have hl := (Array.getElem?_eq_some_iff.1 h.b3).1
  obtain ⟨l1, l2⟩ := h.lt
  exact ⟨hc, hG, hr, hp, h.bx.trans hb, h.lt, (hb.block _ (by omega) (by omega) (by omega)).trans h.b0, (hb.block _ (by omega) (by omega) (by omega)).trans h.b1, (hb.block _ (by omega) (by omega) (by omega)).trans h.b2, (hb.block _ (by omega) (by omega) (by omega)).trans h.b3⟩
theorem AS.cells {w W : World} {g m : Nat} {r0 r1 r2 r3 : Array Value} {d : DkIn} {A : SavedIn → Prop} {k B : Nat} (h : AS w W g m r0 r1 r2 r3 d A k B) :
    w.heap.size + 3 < W.heap.size ∧ (∀ i, W.cell? ⟨w.heap.size, i, none⟩ = r0[i]?) ∧ (∀ i, W.cell? ⟨w.heap.size + 1, i, none⟩ = r1[i]?) ∧ (∀ i, W.cell? ⟨w.heap.size + 2, i, none⟩ = r2[i]?) ∧ (∀ i, W.cell? ⟨w.heap.size + 3, i, none⟩ = r3[i]?) ∧ (∀ i, W.frozen? ⟨w.heap.size + 3, i, none⟩ = false) :=
  ⟨(Array.getElem?_eq_some_iff.1 h.b3).1, fun i => cell_of_row W _ i _ _ _ h.b0, fun i => cell_of_row W _ i _ _ _ h.b1, fun i => cell_of_row W _ i _ _ _ h.b2, fun i => cell_of_row W _ i _ _ _ h.b3, fun i => frozen_of_row W _ i _ _ h.b3⟩
theorem AS.drew {w W : World} {g m : Nat} {r0 r1 r2 r3 : Array Value} {d : DkIn} {A : SavedIn → Prop} {k B : Nat} (h : AS w W g m r0 r1 r2 r3 d A k B) : AS w W.drew g m r0 r1 r2 r3 d A k B := h.below (Below.refl _ _).drew
theorem and3_le (n : Int) : bits .and .i64 n 3 ≤ 9223372036854775807 := by
  show IntKind.i64.wrap _ ≤ _
  simp only [IntKind.wrap]
  simp [IntKind.signed, IntKind.bits]
  omega
/-- The cells of an act that Fuse reads. -/
theorem AS.act {w W : World} {g m : Nat} {r1 r2 r3 : Array Value} {d : DkIn} {A : SavedIn → Prop} {k B : Nat} {y0 y1 y2 y3 y4 y5 y6 y7 y8 y9 y10 : Value} {r0 : Array Value} (hr : Hid (#[y0, y1, y2, y3, y4, y5, y6, y7, y8, y9, y10] = r0)) (h : AS w W g m r0 r1 r2 r3 d A k B) : W.cell? ⟨w.heap.size, 1, none⟩ = some y1 ∧ W.cell? ⟨w.heap.size, 3, none⟩ = some y3 := by
  obtain ⟨-, c0, -⟩ := h.cells
  rw [← hr.out] at c0
  exact ⟨c0 1, c0 3⟩
/-- What was opened, in a box. -/
theorem AS.got {w W V : World} {g m : Nat} {r0 r1 r2 r3 : Array Value} {d : DkIn} {A : SavedIn → Prop} {k B : Nat} (h : AS w W g m r0 r1 r2 r3 d A k B) (x : Array Value)
    (e : V = W.alloc (.cells x 33)) : AS w V g m r0 r1 r2 r3 d A k B ∧ V.heap[W.heap.size]? = some (.cells x 33) ∧ Below W.heap.size W V := by
  have hb : Below W.heap.size W V := by rw [e]; exact below_al (Below.refl W.heap.size W) _
  exact ⟨h.below hb, by rw [e]; exact Own.heap_new _ _, hb⟩
/-- The cells of the three boxes. -/
theorem AS.flat {w W : World} {g m b : Nat} {r0 r3 : Array Value} {d : DkIn} {A : SavedIn → Prop} {k B : Nat} {p0 p1 p2 p3 q0 q1 q2 q3 x0 x1 x2 x3 : Value} (h : AS w W g m r0 #[p0, p1, p2, p3] #[q0, q1, q2, q3] r3 d A k B) (hx : W.heap[b]? = some (.cells #[x0, x1, x2, x3] 33)) :
    W.cell? ⟨b, 0, none⟩ = some x0 ∧ W.cell? ⟨b, 1, none⟩ = some x1 ∧ W.cell? ⟨b, 2, none⟩ = some x2 ∧ W.cell? ⟨b, 3, none⟩ = some x3 ∧
    W.cell? ⟨w.heap.size + 1, 0, none⟩ = some p0 ∧ W.cell? ⟨w.heap.size + 1, 1, none⟩ = some p1 ∧ W.cell? ⟨w.heap.size + 1, 2, none⟩ = some p2 ∧ W.cell? ⟨w.heap.size + 1, 3, none⟩ = some p3 ∧
    W.cell? ⟨w.heap.size + 1 + 1, 0, none⟩ = some q0 ∧ W.cell? ⟨w.heap.size + 1 + 1, 1, none⟩ = some q1 ∧ W.cell? ⟨w.heap.size + 1 + 1, 2, none⟩ = some q2 ∧ W.cell? ⟨w.heap.size + 1 + 1, 3, none⟩ = some q3 := by
  obtain ⟨-, -, c1, c2, -, -⟩ := h.cells
  exact ⟨cell_of_row W _ 0 _ _ _ hx, cell_of_row W _ 1 _ _ _ hx, cell_of_row W _ 2 _ _ _ hx, cell_of_row W _ 3 _ _ _ hx, c1 0, c1 1, c1 2, c1 3, c2 0, c2 1, c2 2, c2 3⟩
/-- What goes out is laid. -/
theorem AS.put {w W V : World} {g m : Nat} {r0 r1 r2 : Array Value} {d : DkIn} {A : SavedIn → Prop} {k B : Nat} {v0 v1 v2 v3 : Value} (h : AS w W g m r0 r1 r2 #[v0, v1, v2, v3] d A k B) (x0 x1 x2 x3 : Value)
    (e : V = (((W.setCell ⟨w.heap.size + 1 + 1 + 1, 0, none⟩ x0).setCell ⟨w.heap.size + 1 + 1 + 1, 1, none⟩ x1).setCell ⟨w.heap.size + 1 + 1 + 1, 2, none⟩ x2).setCell ⟨w.heap.size + 1 + 1 + 1, 3, none⟩ x3) :
    AS w V g m r0 r1 r2 #[x0, x1, x2, x3] d A k B ∧ (∀ b, b ≠ w.heap.size + 1 + 1 + 1 → V.heap[b]? = W.heap[b]?) ∧ V.heap.size = W.heap.size ∧ V.heap[w.heap.size + 1 + 1 + 1]? = some (.cells #[x0, x1, x2, x3] 33) := by
  obtain ⟨s1, s2, s3⟩ := set4_heap W (w.heap.size + 1 + 1 + 1) x0 x1 x2 x3 v0 v1 v2 v3 _ h.b3
  rw [← e] at s1 s2 s3
  have hos : V.os = W.os ∧ V.tape = W.tape ∧ V.output = W.output := by rw [e]; exact ⟨rfl, rfl, rfl⟩
  have gr : W.grownBy V (some (w.heap.size + 1 + 1 + 1)) := ⟨hos.1, hos.2.1, hos.2.2, by rw [s3]; exact Nat.le_refl _, fun k hk hne => s2 k fun e => hne (by rw [e])⟩
  obtain ⟨l1, l2⟩ := h.lt
  have hb := h.bx
  exact ⟨⟨h.cr, h.gr, h.room, h.pd.grown gr (by intro e; cases e; omega) (by intro e; cases e; omega), ⟨hos.1.trans hb.os, hos.2.1.trans hb.tape, hos.2.2.trans hb.output, by rw [s3]; exact hb.size, fun k hk h1 h2 => (s2 k (by omega)).trans (hb.block k hk h1 h2)⟩, h.lt, (s2 _ (by omega)).trans h.b0, (s2 _ (by omega)).trans h.b1, (s2 _ (by omega)).trans h.b2, s1⟩, s2, s3, s1⟩
theorem AS.out3 {w W : World} {g m : Nat} {r0 r1 r2 : Array Value} {d : DkIn} {A : SavedIn → Prop} {k B : Nat} {v0 v1 v2 v3 : Value} (h : AS w W g m r0 r1 r2 #[v0, v1, v2, v3] d A k B) :
    W.cell? ⟨w.heap.size + 1 + 1 + 1, 0, none⟩ = some v0 ∧ W.cell? ⟨w.heap.size + 1 + 1 + 1, 1, none⟩ = some v1 ∧ W.cell? ⟨w.heap.size + 1 + 1 + 1, 2, none⟩ = some v2 ∧ W.cell? ⟨w.heap.size + 1 + 1 + 1, 3, none⟩ = some v3 ∧
    W.frozen? ⟨w.heap.size + 1 + 1 + 1, 0, none⟩ = false ∧ W.frozen? ⟨w.heap.size + 1 + 1 + 1, 1, none⟩ = false ∧ W.frozen? ⟨w.heap.size + 1 + 1 + 1, 2, none⟩ = false ∧ W.frozen? ⟨w.heap.size + 1 + 1 + 1, 3, none⟩ = false := by
  obtain ⟨-, -, -, -, c, f⟩ := h.cells
  exact ⟨c 0, c 1, c 2, c 3, f 0, f 1, f 2, f 3⟩
end Jrn
end Go.Proofs.Yteaikleofboknaa
end
