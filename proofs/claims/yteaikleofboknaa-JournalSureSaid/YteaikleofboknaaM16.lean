/- Texts put together: JrY, JrZ. -/
import Derived.Test.YteaikleofboknaaM15
set_option linter.all false
section
set_option maxRecDepth 100000
namespace Go.Proofs.Yteaikleofboknaa
open Go.RowKit Go.Great Go.Maps
namespace Jrn
open Frm (fits num put scan strs rows allS allE oks ok cats)
open In (strVals Strs)
open Dsk (below2 below_al below_dN DkIn PD Bx Dok FileIn newD namesV crashV fuseV)
/-- What lies while acts are done: now in the box nb, what may be in the box mb. -/
structure SS (w W : World) (g m nb mb j : Nat) (S T : SavedIn) (d : DkIn) (a : Option Addr) (cap : Nat) (a2 : Option Addr) (cap2 k B q : Nat) : Prop where
  fate : Fate W j g S T d
  gr : Gr d k B
  room : d.room = 1048576
  pd : PD W g m d.files.length d
  now : W.heap[nb]? = some (.cells (savedRow S a cap) 33)
  may : W.heap[mb]? = some (.cells (savedRow T a2 cap2) 33)
  rcs : Strs W a (rows S.recs)
  rcs2 : Strs W a2 (rows T.recs)
  own : S.recs ≠ [] → ∀ x, a = some x → x.block < W.heap.size ∧ x.block ≠ g ∧ x.block ≠ m ∧ x.block ≠ j ∧ x.block ≠ nb ∧ x.block ≠ mb
  own2 : T.recs ≠ [] → ∀ x, a2 = some x → x.block < W.heap.size ∧ x.block ≠ g ∧ x.block ≠ m ∧ x.block ≠ j ∧ x.block ≠ nb ∧ x.block ≠ mb
  nil : a = none → cap = 0
  nil2 : a2 = none → cap2 = 0
  bel : Below w.heap.size w W
  lo : w.heap.size ≤ g ∧ w.heap.size ≤ m ∧ w.heap.size ≤ j ∧ w.heap.size ≤ nb ∧ w.heap.size ≤ mb
  ne : j ≠ g ∧ j ≠ m ∧ nb ≠ g ∧ nb ≠ m ∧ nb ≠ j ∧ mb ≠ g ∧ mb ≠ m ∧ mb ≠ j ∧ mb ≠ nb
  few : S.gen ≤ q ∧ S.recs.length ≤ q ∧ S.base.length ≤ 12000
  few2 : T.gen ≤ q ∧ T.recs.length ≤ q ∧ T.base.length ≤ 12000
  k' : k ≤ 3 + 40 * q
  B' : B ≤ 17 + 13100 * q
/-- Records stay where only the disk is touched. -/
theorem SS.strs {w W : World} {g m nb mb j : Nat} {S T : SavedIn} {d : DkIn} {a a2 : Option Addr} {cap cap2 k B q : Nat} (h : SS w W g m nb mb j S T d a cap a2 cap2 k B q) (V : World) (hb : Bx g m W V) : Strs V a (rows S.recs) ∧ Strs V a2 (rows T.recs) := by
  refine ⟨?_, ?_⟩
  · by_cases hn : S.recs = []
    · rw [hn]; exact fun i hi => absurd hi (Nat.not_lt_zero i)
    · exact strs_keep h.rcs fun x hx => by
        obtain ⟨p1, p2, p3, -⟩ := h.own hn x hx
        exact ⟨hb.block x.block p1 p2 p3, Nat.lt_of_lt_of_le p1 hb.size⟩
  · by_cases hn : T.recs = []
    · rw [hn]; exact fun i hi => absurd hi (Nat.not_lt_zero i)
    · exact strs_keep h.rcs2 fun x hx => by
        obtain ⟨p1, p2, p3, -⟩ := h.own2 hn x hx
        exact ⟨hb.block x.block p1 p2 p3, Nat.lt_of_lt_of_le p1 hb.size⟩
theorem SS.cells {w W : World} {g m nb mb j : Nat} {S T : SavedIn} {d : DkIn} {a a2 : Option Addr} {cap cap2 k B q : Nat} (h : SS w W g m nb mb j S T d a cap a2 cap2 k B q) :
    nb < W.heap.size ∧ mb < W.heap.size ∧ (∀ i, W.cell? ⟨nb, i, none⟩ = (savedRow S a cap)[i]?) ∧ (∀ i, W.frozen? ⟨nb, i, none⟩ = false) ∧ (∀ i, W.cell? ⟨mb, i, none⟩ = (savedRow T a2 cap2)[i]?) ∧ (∀ i, W.frozen? ⟨mb, i, none⟩ = false) :=
  ⟨(Array.getElem?_eq_some_iff.1 h.now).1, (Array.getElem?_eq_some_iff.1 h.may).1, fun i => cell_of_row W _ i _ _ _ h.now, fun i => frozen_of_row W _ i _ _ h.now, fun i => cell_of_row W _ i _ _ _ h.may, fun i => frozen_of_row W _ i _ _ h.may⟩
/-- A record does not lie in a journal's row. -/
theorem rec_not_row {W : World} {j g : Nat} {gen cnt : Int} {dead : Bool} {l : List (List UInt8)} {x : Addr} (hj : JR W j g gen cnt dead) (hl : l ≠ []) (hs : Strs W (some x) (rows l)) : x.block ≠ j := by
  have h0 : 0 < (rows l).length := by
    rw [rows_length]
    exact List.length_pos_iff.2 hl
  obtain ⟨b, off, e, hb, hc⟩ := hs 0 h0
  cases e
  intro hbj
  have hbj : b = j := hbj
  subst hbj
  obtain ⟨c, hr, hz, hv⟩ := hj.row
  rw [cell_of_row W b (off + 0) c _ _ hr] at hc
  by_cases h4 : off + 0 < 4
  · rw [hv _ h4] at hc
    generalize off + 0 = o at *
    match o, h4 with
    | 0, _ => cases hc
    | 1, _ => cases hc
    | 2, _ => cases hc
    | 3, _ => cases hc
  · rw [Array.getElem?_eq_none (by omega)] at hc
    cases hc
/-- Behind an opening: what was opened is what is now, and what may be. -/
theorem SS.again {w W W1 w' V1 V : World} {g m nb mb j j' : Nat} {S T R : SavedIn} {d d' : DkIn} {a a2 a' : Option Addr} {cap cap2 cap' k B q : Nat} (h : SS w W g m nb mb j S T d a cap a2 cap2 k B q) (h1 : Below W.heap.size W W1) (hR : Two S T R) (hj : JR w' j' g (R.gen : Int) (R.recs.length : Int) false) (hj' : W1.heap.size ≤ j') (hr : Recs w' W1.heap.size a' R.recs) (hn : a' = none → cap' = 0) (ho : Open' d' R (k + 12) (B + 68)) (hm : d'.room = 1048576) (hp : PD w' g m d'.files.length d') (hb : Bx g m W1 w')
    (v1 : V.heap[nb]? = some (.cells (savedRow R a' cap') 33)) (v2 : V.heap[mb]? = some (.cells (savedRow R a' cap') 33)) (g1 : w'.grownBy V1 (some nb)) (g2 : V1.grownBy V (some mb)) :
    SS w V g m nb mb j' R R d' a' cap' a' cap' (k + 12) (B + 68) (q + 1) := by
  obtain ⟨l1, l2, l3, l4, l5⟩ := h.lo
  obtain ⟨n1, n2, n3, n4, n5, n6, n7, n8, n9⟩ := h.ne
  obtain ⟨c1, c2, -⟩ := h.cells
  obtain ⟨p1, p2⟩ := h.pd.lt
  have s1 := h1.size
  have s2 := hb.size
  have sw := h.bel.size
  have jl := hj.lt
  have hk := h.k'
  have hB := h.B'
  have few : R.gen ≤ q + 1 ∧ R.recs.length ≤ q + 1 ∧ R.base.length ≤ 12000 := by
    rcases hR with rfl | rfl
    · have := h.few; omega
    · have := h.few2; omega
  have bx : Bx g m W w' := (Bx.below h1).trans hb
  have z1 : w'.heap.size ≤ V1.heap.size := g1.size
  have z2 : V1.heap.size ≤ V.heap.size := g2.size
  have vs : w'.heap.size ≤ V.heap.size := Nat.le_trans z1 z2
  have vb : ∀ b, b < w'.heap.size → b ≠ nb → b ≠ mb → V.heap[b]? = w'.heap[b]? := fun b hb h1 h2 => (g2.block b (by omega) (fun e => h2 (Option.some.inj e))).trans (g1.block b hb (fun e => h1 (Option.some.inj e)))
  have vo : V.os = w'.os ∧ V.tape = w'.tape ∧ V.output = w'.output := ⟨g2.os.trans g1.os, g2.tape.trans g1.tape, g2.output.trans g1.output⟩
  have own : R.recs ≠ [] → ∀ x, a' = some x → x.block < V.heap.size ∧ x.block ≠ g ∧ x.block ≠ m ∧ x.block ≠ j' ∧ x.block ≠ nb ∧ x.block ≠ mb := fun hne x hx => by
    have h1' := hr.own x hx
    have h2' := rec_not_row hj hne (hx ▸ hr.lie)
    exact ⟨by omega, by omega, by omega, h2', by omega, by omega⟩
  have rcs : Strs V a' (rows R.recs) := strs_keep hr.lie fun x hx => by
    have := hr.own x hx
    exact ⟨vb _ this.2 (by omega) (by omega), by omega⟩
  refine ⟨Or.inl ⟨rfl, ho.live, ho.goes, ⟨hj.row.of_block (vb j' jl (by omega) (by omega))⟩⟩, ho.gr, hm, ?_, v1, v2, rcs, rcs, own, own, hn, hn, ⟨vo.1.trans (bx.os.trans h.bel.os), vo.2.1.trans (bx.tape.trans h.bel.tape), vo.2.2.trans (bx.output.trans h.bel.output), by omega, fun b hb' => (vb b (by omega) (by omega) (by omega)).trans ((bx.block b (by omega) (by omega) (by omega)).trans (h.bel.block b hb'))⟩, ⟨l1, l2, by omega, l4, l5⟩, ⟨by omega, by omega, n3, n4, by omega, n6, n7, by omega, n9⟩, few, few, by omega, by omega⟩
  exact (hp.grown g1 (by intro e; cases e; omega) (by intro e; cases e; omega)).grown g2 (by intro e; cases e; omega) (by intro e; cases e; omega)
end Jrn
end Go.Proofs.Yteaikleofboknaa
end
section
set_option maxRecDepth 100000
namespace Go.Proofs.Yteaikleofboknaa
open Go.RowKit Go.Great Go.Maps
namespace Jrn
open Frm (fits num put scan strs rows allS allE oks ok cats)
open In (strVals Strs)
open Dsk (below2 below_al below_dN DkIn PD Bx Dok FileIn newD namesV crashV fuseV)
theorem Fate.fuse {W : World} {j g : Nat} {S T : SavedIn} {d : DkIn} (h : Fate W j g S T d) (z : Int) (b : Bool) : Fate W j g S T (fuseV d z b) := by
  rcases h with ⟨h1, h2, h3, h4⟩ | ⟨h1, h2, h3⟩
  · exact Or.inl ⟨h1, h2.congr rfl rfl, h3, h4⟩
  · exact Or.inr ⟨h1, h2.congr rfl rfl, h3⟩
theorem Fate.row {W V : World} {j g : Nat} {S T : SavedIn} {d : DkIn} (h : Fate W j g S T d) (e : V.heap[j]? = W.heap[j]?) : Fate V j g S T d := by
  rcases h with ⟨h1, h2, h3, h4⟩ | ⟨h1, h2, x, y, z, h4⟩
  · exact Or.inl ⟨h1, h2, h3, ⟨h4.row.of_block e⟩⟩
  · exact Or.inr ⟨h1, h2, x, y, z, ⟨h4.row.of_block e⟩⟩
theorem Fate.lt {W : World} {j g : Nat} {S T : SavedIn} {d : DkIn} (h : Fate W j g S T d) : j < W.heap.size := by
  rcases h with ⟨h1, h2, h3, h4⟩ | ⟨h1, h2, x, y, z, h4⟩
  · exact h4.lt
  · exact h4.lt
/-- What an act answers. -/
def Did4 (z : Int) (W : World) (g m j : Nat) (S T N : SavedIn) (k B : Nat) (E : Prop) : Prop :=
  ∃ d' k' B', k' ≤ k + 8 ∧ B' ≤ B + 12100 ∧ Gr d' k' B' ∧ d'.room = 1048576 ∧ PD W g m d'.files.length d' ∧
    ((z = 0 ∧ Fate W j g N N d') ∨ (z = 14 ∧ S = T ∧ Fate W j g S N d') ∨ (z = 14 ∧ S ≠ T ∧ Fate W j g S T d') ∨ (z = 1 ∧ E ∧ Fate W j g S T d'))
theorem dead4 {W : World} {g m j : Nat} {S T N : SavedIn} {k B : Nat} {E : Prop} {d : DkIn} (hG : Gr d k B) (hr : d.room = 1048576) (hp : PD W g m d.files.length d) (h1 : d.dead = true) (h2 : Cr d (Two S T)) (h3 : ∃ gen cnt dead, JR W j g gen cnt dead) : Did4 14 W g m j S T N k B E := by
  refine ⟨d, k, B, Nat.le_add_right _ _, Nat.le_add_right _ _, hG, hr, hp, ?_⟩
  by_cases hST : S = T
  · subst hST
    exact Or.inr (Or.inl ⟨rfl, rfl, Or.inr ⟨h1, h2.mono fun X hX => by rcases hX with e | e <;> exact Or.inl e, h3⟩⟩)
  · exact Or.inr (Or.inr (Or.inl ⟨rfl, hST, Or.inr ⟨h1, h2, h3⟩⟩))
theorem did34 {z : Int} {W : World} {g m j : Nat} {S N : SavedIn} {k B k' B' : Nat} {E : Prop} (h : Did3 z W g m j S N k' B') (hk : k' ≤ k + 8) (hB : B' ≤ B + 12100) : Did4 z W g m j S S N k B E := by
  obtain ⟨d', h1, h2, h3, h4⟩ := h
  refine ⟨d', k', B', hk, hB, h1, h2, h3, ?_⟩
  rcases h4 with ⟨e, h⟩ | ⟨e, h⟩
  · exact Or.inl ⟨e, h⟩
  · exact Or.inr (Or.inl ⟨e, rfl, h⟩)
theorem app_fate (V : World) (g m j : Nat) (S T : SavedIn) (d : DkIn) (k B : Nat) (hF : Fate V j g S T d) (hG : Gr d k B) (hr0 : d.room = 1048576) (hk : k < 800000) (hB : B ≤ 900000) (hp : PD V g m d.files.length d) (hjg : j ≠ g) (hjm : j ≠ m) (hr : S.recs.length ≤ 1000) (s : ByteArray) (hs : s.size ≤ 300) :
    Calls Try.prog 10 #[.pointer (some ⟨j, 0, none⟩), .string s] V fun e w' => ∃ z, e = .returned (.int .i64 z) ∧ Hid (Did4 z w' g m j S T { S with recs := S.recs ++ [s.data.toList] } k B (s.size = 0)) ∧ Hid (Bj g m j V w') := by
  rcases hF with ⟨rfl, hL, hd, hj⟩ | ⟨hd, hc, gen, cnt, dead, hj⟩
  · by_cases hf : fits s.size = true
    · refine (app_sure V g m j S d k B hG hr0 hL hd hk hB hp hj hjg hjm hr s hs hf).mono fun e w' ⟨z, h1, h2, h3⟩ => ⟨z, h1, did34 h2.out (by omega) (by omega), h3⟩
    · have hf0 : fits s.size = false := by simpa using hf
      refine (append_arg V j g m _ d (S.gen : Int) (S.recs.length : Int) hj hp hd s (by unfold maxLen; omega) hf0).mono fun e w' ⟨h1, h2⟩ => ⟨1, h1, ⟨d, k, B, Nat.le_add_right _ _, Nat.le_add_right _ _, hG, hr0, hp.below h2, Or.inr (Or.inr (Or.inr ⟨rfl, ?_, Or.inl ⟨rfl, hL, hd, hj.below h2⟩⟩))⟩, Bj.below g m j h2⟩
      unfold fits at hf0
      rw [decide_eq_false_iff_not] at hf0
      omega
  · refine (append_dead V j g m _ d gen cnt dead hj hp (by rw [hd]; simp) s).mono fun e w' ⟨h1, h2⟩ => ⟨14, h1, dead4 hG hr0 (hp.below h2) hd hc ⟨gen, cnt, dead, hj.below h2⟩, Bj.below g m j h2⟩
theorem snap_fate (V : World) (g m j : Nat) (S T : SavedIn) (d : DkIn) (k B : Nat) (hF : Fate V j g S T d) (hG : Gr d k B) (hr0 : d.room = 1048576) (hk : k < 90000) (hB : B ≤ 900000) (hp : PD V g m d.files.length d) (hjg : j ≠ g) (hjm : j ≠ m) (hg : S.gen ≤ 1000) (s : ByteArray) (hs : s.size ≤ 12000) :
    Calls Try.prog 12 #[.pointer (some ⟨j, 0, none⟩), .string s] V fun e w' => ∃ z, e = .returned (.int .i64 z) ∧ Hid (Did4 z w' g m j S T ⟨S.gen + 1, true, s.data.toList, []⟩ k B False) ∧ Hid (Bj g m j V w') := by
  rcases hF with ⟨rfl, hL, hd, hj⟩ | ⟨hd, hc, gen, cnt, dead, hj⟩
  · exact (snap_sure V g m j S d k B hG hr0 hL hd hk hB hp hj hjg hjm hg s hs).mono fun e w' ⟨z, h1, h2, h3⟩ => ⟨z, h1, did34 h2.out (by omega) (by omega), h3⟩
  · refine (snap_dead V j g m _ d gen cnt dead hj hp (by rw [hd]; simp) s).mono fun e w' ⟨h1, h2⟩ => ⟨14, h1, dead4 hG hr0 (hp.below h2) hd hc ⟨gen, cnt, dead, hj.below h2⟩, Bj.below g m j h2⟩
/-- The boxes stay as they are. -/
theorem SS.keep {w W V : World} {g m nb mb j : Nat} {S T : SavedIn} {d d' : DkIn} {a a2 : Option Addr} {cap cap2 k B k' B' q : Nat} (h : SS w W g m nb mb j S T d a cap a2 cap2 k B q) (hb : Bj g m j W V) (hf : Fate V j g S T d') (hG : Gr d' k' B') (hr : d'.room = 1048576) (hp : PD V g m d'.files.length d') (hk : k' ≤ k + 20) (hB : B' ≤ B + 13000) :
    SS w V g m nb mb j S T d' a cap a2 cap2 k' B' (q + 1) := by
  obtain ⟨l1, l2, l3, l4, l5⟩ := h.lo
  obtain ⟨n1, n2, n3, n4, n5, n6, n7, n8, n9⟩ := h.ne
  obtain ⟨c1, c2, -⟩ := h.cells
  have hk0 := h.k'
  have hB0 := h.B'
  have sw := h.bel.size
  have sb := hb.size
  have f1 := h.few
  have f2 := h.few2
  refine ⟨hf, hG, hr, hp, (hb.block nb c1 n3 n4 n5).trans h.now, (hb.block mb c2 n6 n7 n8).trans h.may, ?_, ?_, fun hn x hx => ?_, fun hn x hx => ?_, h.nil, h.nil2, ⟨hb.os.trans h.bel.os, hb.tape.trans h.bel.tape, hb.output.trans h.bel.output, by omega, fun b hb' => (hb.block b (by omega) (by omega) (by omega) (by omega)).trans (h.bel.block b hb')⟩, h.lo, h.ne, by omega, by omega, by omega, by omega⟩
  · by_cases hn : S.recs = []
    · rw [hn]; exact fun i hi => absurd hi (Nat.not_lt_zero i)
    · exact strs_keep h.rcs fun x hx => by
        obtain ⟨p1, p2, p3, p4, -⟩ := h.own hn x hx
        exact ⟨hb.block x.block p1 p2 p3 p4, Nat.lt_of_lt_of_le p1 hb.size⟩
  · by_cases hn : T.recs = []
    · rw [hn]; exact fun i hi => absurd hi (Nat.not_lt_zero i)
    · exact strs_keep h.rcs2 fun x hx => by
        obtain ⟨p1, p2, p3, p4, -⟩ := h.own2 hn x hx
        exact ⟨hb.block x.block p1 p2 p3 p4, Nat.lt_of_lt_of_le p1 hb.size⟩
  · obtain ⟨p1, p2⟩ := h.own hn x hx
    exact ⟨by omega, p2⟩
  · obtain ⟨p1, p2⟩ := h.own2 hn x hx
    exact ⟨by omega, p2⟩
/-- What comes next, in a box of its own that is new. -/
structure Nxt (wr W : World) (xb : Nat) (N : SavedIn) (a : Option Addr) (cap : Nat) : Prop where
  box : W.heap[xb]? = some (.cells (savedRow N a cap) 33)
  fresh : wr.heap.size ≤ xb
  rcs : Strs W a (rows N.recs)
  own : ∀ x, a = some x → wr.heap.size ≤ x.block ∧ x.block < W.heap.size ∧ x.block ≠ xb
  nil : a = none → cap = 0
theorem Nxt.keep {wr W V : World} {xb g m j : Nat} {N : SavedIn} {a : Option Addr} {cap : Nat} (h : Nxt wr W xb N a cap) (hb : Bj g m j W V) (hl : g < wr.heap.size ∧ m < wr.heap.size ∧ j < wr.heap.size) : Nxt wr V xb N a cap := by
  have hx := (Array.getElem?_eq_some_iff.1 h.box).1
  have hf := h.fresh
  have hs := hb.size
  refine ⟨(hb.block xb hx (by omega) (by omega) (by omega)).trans h.box, hf, strs_keep h.rcs fun x hx => ?_, fun x hx => ?_, h.nil⟩
  · obtain ⟨p1, p2, p3⟩ := h.own x hx
    exact ⟨hb.block x.block p2 (by omega) (by omega) (by omega), by omega⟩
  · obtain ⟨p1, p2, p3⟩ := h.own x hx
    exact ⟨p1, by omega, p3⟩
theorem Nxt.cells {wr W : World} {xb : Nat} {N : SavedIn} {a : Option Addr} {cap : Nat} (h : Nxt wr W xb N a cap) : xb < W.heap.size ∧ (∀ i, W.cell? ⟨xb, i, none⟩ = (savedRow N a cap)[i]?) ∧ (∀ i, W.frozen? ⟨xb, i, none⟩ = false) :=
  ⟨(Array.getElem?_eq_some_iff.1 h.box).1, fun i => cell_of_row W _ i _ _ _ h.box, fun i => frozen_of_row W _ i _ _ h.box⟩
/-- A row is written anew. -/
theorem set4_grown (W V : World) (b : Nat) (x0 x1 x2 x3 : Value) {v0 v1 v2 v3 : Value} {T : TypeId} (h : W.heap[b]? = some (.cells #[v0, v1, v2, v3] T)) (e : V = (((W.setCell ⟨b, 0, none⟩ x0).setCell ⟨b, 1, none⟩ x1).setCell ⟨b, 2, none⟩ x2).setCell ⟨b, 3, none⟩ x3) :
    V.heap[b]? = some (.cells #[x0, x1, x2, x3] T) ∧ (∀ k, k ≠ b → V.heap[k]? = W.heap[k]?) ∧ V.heap.size = W.heap.size ∧ W.grownBy V (some b) := by
  obtain ⟨s1, s2, s3⟩ := set4_heap W b x0 x1 x2 x3 _ _ _ _ _ h
  rw [← e] at s1 s2 s3
  exact ⟨s1, s2, s3, ⟨by rw [e]; rfl, by rw [e]; rfl, by rw [e]; rfl, by rw [s3]; exact Nat.le_refl _, fun k hk hne => s2 k fun e => hne (by rw [e])⟩⟩
/-- What may be is what comes next. -/
theorem SS.set1 {w wr W V : World} {g m nb mb j xb : Nat} {S T N : SavedIn} {d d' : DkIn} {a a2 a8 : Option Addr} {cap cap2 c8 k B k' B' q : Nat} (h : SS w wr g m nb mb j S T d a cap a2 cap2 k B q) (hb : Bj g m j wr W) (hN : Nxt wr W xb N a8 c8) (hf : Fate W j g S N d') (hG : Gr d' k' B') (hr : d'.room = 1048576) (hp : PD W g m d'.files.length d') (hk : k' ≤ k + 20) (hB : B' ≤ B + 13000) (hfew : N.gen ≤ q + 1 ∧ N.recs.length ≤ q + 1 ∧ N.base.length ≤ 12000)
    (e : V = (((W.setCell ⟨mb, 0, none⟩ (.int .i64 (N.gen : Int))).setCell ⟨mb, 1, none⟩ (.bool N.has)).setCell ⟨mb, 2, none⟩ (.string ⟨N.base.toArray⟩)).setCell ⟨mb, 3, none⟩ (.slice a8 N.recs.length c8)) :
    SS w V g m nb mb j S N d' a cap a8 c8 k' B' (q + 1) := by
  obtain ⟨l1, l2, l3, l4, l5⟩ := h.lo
  obtain ⟨n1, n2, n3, n4, n5, n6, n7, n8, n9⟩ := h.ne
  obtain ⟨c1, c2, -⟩ := h.cells
  obtain ⟨g1, g2⟩ := h.pd.lt
  have jl := h.fate.lt
  have hk0 := h.k'
  have hB0 := h.B'
  have sw := h.bel.size
  have sb := hb.size
  have f1 := h.few
  obtain ⟨s1, s2, s3, s4⟩ := set4_grown W V mb _ _ _ _ ((hb.block mb c2 n6 n7 n8).trans h.may) e
  have own8 : ∀ x, a8 = some x → V.heap[x.block]? = W.heap[x.block]? ∧ x.block < V.heap.size := fun x hx => by
    obtain ⟨p1, p2, p3⟩ := hN.own x hx
    exact ⟨s2 _ (by omega), by omega⟩
  refine ⟨hf.row (s2 j (by omega)), hG, hr, hp.grown s4 (by intro e; cases e; omega) (by intro e; cases e; omega), (s2 nb (by omega)).trans ((hb.block nb c1 n3 n4 n5).trans h.now), s1, ?_, strs_keep hN.rcs own8, fun hn x hx => ?_, fun hn x hx => ?_, h.nil, hN.nil, ⟨s4.os.trans (hb.os.trans h.bel.os), s4.tape.trans (hb.tape.trans h.bel.tape), s4.output.trans (hb.output.trans h.bel.output), by omega, fun b hb' => (s2 b (by omega)).trans ((hb.block b (by omega) (by omega) (by omega) (by omega)).trans (h.bel.block b hb'))⟩, h.lo, h.ne, by omega, hfew, by omega, by omega⟩
  · by_cases hn : S.recs = []
    · rw [hn]; exact fun i hi => absurd hi (Nat.not_lt_zero i)
    · exact strs_keep h.rcs fun x hx => by
        obtain ⟨p1, p2, p3, p4, p5, p6⟩ := h.own hn x hx
        exact ⟨(s2 _ p6).trans (hb.block x.block p1 p2 p3 p4), by omega⟩
  · obtain ⟨p1, p2⟩ := h.own hn x hx
    exact ⟨by omega, p2⟩
  · obtain ⟨p1, p2, p3⟩ := hN.own x hx
    exact ⟨by omega, by omega, by omega, by omega, by omega, by omega⟩
/-- What is now, and what may be, is what comes next. -/
theorem SS.set2 {w wr W V1 V : World} {g m nb mb j xb : Nat} {S T N : SavedIn} {d d' : DkIn} {a a2 a8 : Option Addr} {cap cap2 c8 k B k' B' q : Nat} (h : SS w wr g m nb mb j S T d a cap a2 cap2 k B q) (hb : Bj g m j wr W) (hN : Nxt wr W xb N a8 c8) (hf : Fate W j g N N d') (hG : Gr d' k' B') (hr : d'.room = 1048576) (hp : PD W g m d'.files.length d') (hk : k' ≤ k + 20) (hB : B' ≤ B + 13000) (hfew : N.gen ≤ q + 1 ∧ N.recs.length ≤ q + 1 ∧ N.base.length ≤ 12000)
    (e1 : V1 = (((W.setCell ⟨nb, 0, none⟩ (.int .i64 (N.gen : Int))).setCell ⟨nb, 1, none⟩ (.bool N.has)).setCell ⟨nb, 2, none⟩ (.string ⟨N.base.toArray⟩)).setCell ⟨nb, 3, none⟩ (.slice a8 N.recs.length c8))
    (e : V = (((V1.setCell ⟨mb, 0, none⟩ (.int .i64 (N.gen : Int))).setCell ⟨mb, 1, none⟩ (.bool N.has)).setCell ⟨mb, 2, none⟩ (.string ⟨N.base.toArray⟩)).setCell ⟨mb, 3, none⟩ (.slice a8 N.recs.length c8)) :
    SS w V g m nb mb j N N d' a8 c8 a8 c8 k' B' (q + 1) := by
  obtain ⟨l1, l2, l3, l4, l5⟩ := h.lo
  obtain ⟨n1, n2, n3, n4, n5, n6, n7, n8, n9⟩ := h.ne
  obtain ⟨c1, c2, -⟩ := h.cells
  obtain ⟨g1, g2⟩ := h.pd.lt
  have jl := h.fate.lt
  have hk0 := h.k'
  have hB0 := h.B'
  have sw := h.bel.size
  have sb := hb.size
  obtain ⟨r1, r2, r3, r4⟩ := set4_grown W V1 nb _ _ _ _ ((hb.block nb c1 n3 n4 n5).trans h.now) e1
  obtain ⟨s1, s2, s3, s4⟩ := set4_grown V1 V mb _ _ _ _ ((r2 mb (by omega)).trans ((hb.block mb c2 n6 n7 n8).trans h.may)) e
  have own8 : ∀ x, a8 = some x → V.heap[x.block]? = W.heap[x.block]? ∧ x.block < V.heap.size := fun x hx => by
    obtain ⟨p1, p2, p3⟩ := hN.own x hx
    exact ⟨(s2 _ (by omega)).trans (r2 _ (by omega)), by omega⟩
  have own9 : N.recs ≠ [] → ∀ x, a8 = some x → x.block < V.heap.size ∧ x.block ≠ g ∧ x.block ≠ m ∧ x.block ≠ j ∧ x.block ≠ nb ∧ x.block ≠ mb := fun hn x hx => by
    obtain ⟨p1, p2, p3⟩ := hN.own x hx
    exact ⟨by omega, by omega, by omega, by omega, by omega, by omega⟩
  refine ⟨hf.row ((s2 j (by omega)).trans (r2 j (by omega))), hG, hr, (hp.grown r4 (by intro e; cases e; omega) (by intro e; cases e; omega)).grown s4 (by intro e; cases e; omega) (by intro e; cases e; omega), (s2 nb (by omega)).trans r1, s1, strs_keep hN.rcs own8, strs_keep hN.rcs own8, own9, own9, hN.nil, hN.nil, ⟨s4.os.trans (r4.os.trans (hb.os.trans h.bel.os)), s4.tape.trans (r4.tape.trans (hb.tape.trans h.bel.tape)), s4.output.trans (r4.output.trans (hb.output.trans h.bel.output)), by omega, fun b hb' => (s2 b (by omega)).trans ((r2 b (by omega)).trans ((hb.block b (by omega) (by omega) (by omega) (by omega)).trans (h.bel.block b hb')))⟩, h.lo, h.ne, hfew, hfew, by omega, by omega⟩
/-- Behind the region that makes what comes next. -/
theorem Nxt.made {wr W V : World} {xb : Nat} {S : SavedIn} {r : List UInt8} {a : Option Addr} {cap : Nat} {v0 v1 v2 v3 : Value} (hx : W.heap[xb]? = some (.cells #[v0, v1, v2, v3] 33)) (hf : wr.heap.size ≤ xb) (hs : Strs W a (rows (S.recs ++ [r]))) (ho : ∀ x, a = some x → wr.heap.size ≤ x.block ∧ x.block < W.heap.size) (hne : ∀ x, a = some x → x.block ≠ xb) (hn : a = none → cap = 0)
    (e : V = (((W.setCell ⟨xb, 0, none⟩ (.int .i64 (S.gen : Int))).setCell ⟨xb, 1, none⟩ (.bool S.has)).setCell ⟨xb, 2, none⟩ (.string ⟨S.base.toArray⟩)).setCell ⟨xb, 3, none⟩ (.slice a (S.recs.length + 1) cap)) :
    Nxt wr V xb { S with recs := S.recs ++ [r] } a cap ∧ W.grownBy V (some xb) := by
  obtain ⟨s1, s2, s3, s4⟩ := set4_grown W V xb _ _ _ _ hx e
  refine ⟨⟨?_, hf, strs_keep hs fun x hx => ⟨s2 _ (hne x hx), by have := ho x hx; omega⟩, fun x hx => ⟨(ho x hx).1, by have := ho x hx; omega, hne x hx⟩, hn⟩, s4⟩
  rw [s1, savedRow, List.length_append]
  rfl
theorem SS.strsj {w W : World} {g m nb mb j : Nat} {S T : SavedIn} {d : DkIn} {a a2 : Option Addr} {cap cap2 k B q : Nat} (h : SS w W g m nb mb j S T d a cap a2 cap2 k B q) (V : World) (hb : Bj g m j W V) : Strs V a (rows S.recs) ∧ Strs V a2 (rows T.recs) := by
  refine ⟨?_, ?_⟩
  · by_cases hn : S.recs = []
    · rw [hn]; exact fun i hi => absurd hi (Nat.not_lt_zero i)
    · exact strs_keep h.rcs fun x hx => by
        obtain ⟨p1, p2, p3, p4, -⟩ := h.own hn x hx
        exact ⟨hb.block x.block p1 p2 p3 p4, Nat.lt_of_lt_of_le p1 hb.size⟩
  · by_cases hn : T.recs = []
    · rw [hn]; exact fun i hi => absurd hi (Nat.not_lt_zero i)
    · exact strs_keep h.rcs2 fun x hx => by
        obtain ⟨p1, p2, p3, p4, -⟩ := h.own2 hn x hx
        exact ⟨hb.block x.block p1 p2 p3 p4, Nat.lt_of_lt_of_le p1 hb.size⟩
/-- A cell that holds a string. -/
def One (W : World) (ab : Nat) (A : ByteArray) : Prop := ab < W.heap.size ∧ W.cell? ⟨ab, 0, none⟩ = some (.string A)
/-- A box of what is saved, as it is made. -/
def Box (W : World) (B xb : Nat) : Prop := W.heap[xb]? = some (.cells #[.int .i64 0, .bool false, .string ⟨#[]⟩, .slice none 0 0] 33) ∧ B ≤ xb
theorem own_al {W U : World} {base e n : Nat} {v : Value} {l : List Value} {x : Obj} (h : W.ownsRow base e 1 v n l) (hu : U = W.alloc x) : U.ownsRow base e 1 v n l := by rw [hu]; exact h.alloc x
theorem one_al {W U : World} {ab : Nat} {A : ByteArray} {x : Obj} (h : One W ab A) (hu : U = W.alloc x) : One U ab A := by
  have hb : Below W.heap.size W U := by rw [hu]; exact below_al (Below.refl _ _) _
  exact ⟨Nat.lt_of_lt_of_le h.1 hb.size, (hb.cell (p := ⟨ab, 0, none⟩) h.1).trans h.2⟩
theorem box_al {W U : World} {B xb : Nat} {x : Obj} (h : Box W B xb) (hu : U = W.alloc x) : Box U B xb := by
  have hb : Below W.heap.size W U := by rw [hu]; exact below_al (Below.refl _ _) _
  exact ⟨(hb.block xb (Array.getElem?_eq_some_iff.1 h.1).1).trans h.1, h.2⟩
theorem strs_al {W U : World} {a : Option Addr} {l : List ByteArray} {x : Obj} (h : Strs W a l) (hu : U = W.alloc x) : Strs U a l := by
  have hb : Below W.heap.size W U := by rw [hu]; exact below_al (Below.refl _ _) _
  exact h.below hb
theorem lt_al {W U : World} {a : Option Addr} {B : Nat} {x : Obj} (h : ∀ y, a = some y → B ≤ y.block ∧ y.block < W.heap.size) (hu : U = W.alloc x) : ∀ y, a = some y → B ≤ y.block ∧ y.block < U.heap.size := fun y hy => by
  have hb : Below W.heap.size W U := by rw [hu]; exact below_al (Below.refl _ _) _
  exact ⟨(h y hy).1, Nat.lt_of_lt_of_le (h y hy).2 hb.size⟩
theorem own_new {W U : World} (base : Nat) (hb : base ≤ W.heap.size) (hu : U = W.alloc (.cells #[] 9)) : U.ownsRow base 9 1 (.slice (some ⟨W.heap.size, 0, none⟩) 0 0) 0 (strVals []) := by
  rw [hu]; exact own_empty (Own.heap_new W _) hb
theorem one_new {W U : World} {A : ByteArray} (hu : U = W.alloc (.cells #[.string A] 9)) : One U W.heap.size A := by
  have hc : U.cell? ⟨W.heap.size, 0, none⟩ = some (.string A) := by rw [hu]; exact Own.cell_new W _ _
  exact ⟨World.block_lt_of_cell? _ _ hc, hc⟩
theorem box_new {W U : World} {B : Nat} (hb : B ≤ W.heap.size) (hu : U = W.alloc (.cells #[.int .i64 0, .bool false, .string ⟨#[]⟩, .slice none 0 0] 33)) : Box U B W.heap.size := by
  rw [hu]; exact ⟨Own.heap_new W _, hb⟩
theorem one_ne {W : World} {ab n c : Nat} {A : ByteArray} (h : One W ab A) : some ab ≠ Value.ownBlock (.slice (some ⟨W.heap.size, 0, none⟩) n c) := fun e => by
  have h1 : ab = W.heap.size := Option.some.inj e
  have := h.1
  omega
theorem own_not {W : World} {base e n : Nat} {v : Value} {l : List Value} (h : W.ownsRow base e 1 v n l) : some W.heap.size ≠ v.ownBlock := fun e => by
  have := (h.lt W.heap.size e.symm).2
  omega
theorem one_grow {W U : World} {ab : Nat} {A : ByteArray} {v : Value} (h : One W ab A) (hg : W.grownBy U v.ownBlock) (hne : some ab ≠ v.ownBlock) : One U ab A :=
  ⟨Nat.lt_of_lt_of_le h.1 hg.size, hg.cell (a := ⟨ab, 0, none⟩) h.2 hne⟩
theorem box_grow {W U : World} {B xb : Nat} {v : Value} (h : Box W B xb) (hg : W.grownBy U v.ownBlock) (hne : some xb ≠ v.ownBlock) : Box U B xb :=
  ⟨(hg.block xb (Array.getElem?_eq_some_iff.1 h.1).1 hne).trans h.1, h.2⟩
theorem own_xb {W : World} {base e T n n2 c xb : Nat} {a : Option Addr} {l : List Value} {r : Array Value} (h : W.ownsRow base e 1 (.slice a n c) n2 l) (hx : W.heap[xb]? = some (.cells r T)) (hne : e ≠ T) : ∀ x, a = some x → x.block ≠ xb := fun x e e2 => by
  subst e
  exact own_ne h hx hne (by show some xb = some x.block; rw [e2])
theorem box_cells {W : World} {B xb : Nat} (h : Box W B xb) : (W.cell? ⟨xb, 0, none⟩ = some (.int .i64 0) ∧ W.cell? ⟨xb, 1, none⟩ = some (.bool false) ∧ W.cell? ⟨xb, 2, none⟩ = some (.string ⟨#[]⟩) ∧ W.cell? ⟨xb, 3, none⟩ = some (.slice none 0 0)) ∧ (W.frozen? ⟨xb, 0, none⟩ = false ∧ W.frozen? ⟨xb, 1, none⟩ = false ∧ W.frozen? ⟨xb, 2, none⟩ = false ∧ W.frozen? ⟨xb, 3, none⟩ = false) ∧ xb < W.heap.size :=
  ⟨⟨cell_of_row W _ 0 _ _ _ h.1, cell_of_row W _ 1 _ _ _ h.1, cell_of_row W _ 2 _ _ _ h.1, cell_of_row W _ 3 _ _ _ h.1⟩, ⟨frozen_of_row W _ 0 _ _ h.1, frozen_of_row W _ 1 _ _ h.1, frozen_of_row W _ 2 _ _ h.1, frozen_of_row W _ 3 _ _ h.1⟩, (Array.getElem?_eq_some_iff.1 h.1).1⟩
/-- Behind an opening: the boxes are written. -/
theorem SS.again2 {w wr W1 w' W2 V1 V : World} {g m nb mb j j' : Nat} {S T R : SavedIn} {d d' : DkIn} {a a2 a' : Option Addr} {cap cap2 cap' k B q : Nat} (h : SS w wr g m nb mb j S T d a cap a2 cap2 k B q) (h1 : Below wr.heap.size wr W1) (hR : Two S T R) (hj : JR w' j' g (R.gen : Int) (R.recs.length : Int) false) (hj' : W1.heap.size ≤ j') (hr : Recs w' W1.heap.size a' R.recs) (hn : a' = none → cap' = 0) (ho : Open' d' R (k + 12) (B + 68)) (hm : d'.room = 1048576) (hp : PD w' g m d'.files.length d') (hb : Bx g m W1 w')
    (hW2 : W2 = w'.alloc (.cells #[.int .i64 (R.gen : Int), .bool R.has, .string ⟨R.base.toArray⟩, .slice a' R.recs.length cap'] 33))
    (e1 : V1 = (((W2.setCell ⟨nb, 0, none⟩ (.int .i64 (R.gen : Int))).setCell ⟨nb, 1, none⟩ (.bool R.has)).setCell ⟨nb, 2, none⟩ (.string ⟨R.base.toArray⟩)).setCell ⟨nb, 3, none⟩ (.slice a' R.recs.length cap'))
    (e : V = (((V1.setCell ⟨mb, 0, none⟩ (.int .i64 (R.gen : Int))).setCell ⟨mb, 1, none⟩ (.bool R.has)).setCell ⟨mb, 2, none⟩ (.string ⟨R.base.toArray⟩)).setCell ⟨mb, 3, none⟩ (.slice a' R.recs.length cap')) :
    SS w V g m nb mb j' R R d' a' cap' a' cap' (k + 12) (B + 68) (q + 1) := by
  obtain ⟨n1, n2, n3, n4, n5, n6, n7, n8, n9⟩ := h.ne
  obtain ⟨c1, c2, -⟩ := h.cells
  have s1 := h1.size
  have s2 := hb.size
  have bn : w'.heap[nb]? = some (.cells (savedRow S a cap) 33) := (hb.block nb (by omega) n3 n4).trans ((h1.block nb c1).trans h.now)
  have bm : w'.heap[mb]? = some (.cells (savedRow T a2 cap2) 33) := (hb.block mb (by omega) n6 n7).trans ((h1.block mb c2).trans h.may)
  have ha : Below w'.heap.size w' W2 := by rw [hW2]; exact below_al (Below.refl _ _) _
  obtain ⟨r1, r2, r3, r4⟩ := set4_grown W2 V1 nb _ _ _ _ ((ha.block nb (by omega)).trans bn) e1
  obtain ⟨t1, t2, t3, t4⟩ := set4_grown V1 V mb _ _ _ _ ((r2 mb (by omega)).trans ((ha.block mb (by omega)).trans bm)) e
  have za := ha.size
  refine h.again (V1 := V1) h1 hR hj hj' hr hn ho hm hp hb ((t2 nb (by omega)).trans r1) t1 ⟨r4.os.trans ha.os, r4.tape.trans ha.tape, r4.output.trans ha.output, by omega, fun k hk hne => (r2 k (fun e => hne (by rw [e]))).trans (ha.block k hk)⟩ t4
end Jrn
end Go.Proofs.Yteaikleofboknaa
end
