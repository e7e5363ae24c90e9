/- Texts put together: JrI. -/
import Derived.Test.YteaikleofboknaaM11
set_option linter.all false
section
set_option maxRecDepth 100000
namespace Go.Proofs.Yteaikleofboknaa
open Go.RowKit Go.Great Go.Maps
namespace Jrn
open Frm (fits num put scan strs rows allS allE oks ok cats)
open In (strVals Strs)
open Dsk
theorem size_saved (a b c d : Value) : (Try.prog.info? 33).map (·.size) = some (#[a, b, c, d] : Array Value).size := by kernel_rfl
theorem ret_saved {fn : Func} {p q u : Tmp} (h : fn.results = #[.tmp p, .cell q 33, .tmp u]) (tmps : Array Value) (w : World) (g : Nat) (a b c d x y : Value)
    (hx : tmps.getD p undef = x) (hp : tmps.getD q undef = .pointer (some ⟨g, 0, none⟩)) (hy : tmps.getD u undef = y) (hg : w.heap[g]? = some (.cells #[a, b, c, d] 33 (0, 0))) :
    (results fn tmps).run Try.prog w = .ok (.tuple #[x, .agg #[a, b, c, d], y]) w := by
  have hx' : tmps[p]?.getD undef = x := by simpa using hx
  have hp' : tmps[q]?.getD undef = .pointer (some ⟨g, 0, none⟩) := by simpa using hp
  have hy' : tmps[u]?.getD undef = y := by simpa using hy
  have e : (results fn tmps).run Try.prog w = ((asAddr (tmps.getD q undef)).run Try.prog w).andThen fun ad w₁ => ((loadVar 33 ad).run Try.prog w₁).andThen fun v w₂ => .ok (.tuple #[tmps.getD p undef, v, tmps.getD u undef]) w₂ := by
    simp only [results, h]
    simp [Sem.run_bind, Result.andThen]
  rw [e]
  simp [hx', hp', hy', asAddr, run_loadVar_row _ _ _ _ #[a, b, c, d] _ _ hg Try.underlying33 rfl (size_saved a b c d)]
/-- A snapshot that was saved, as a value. -/
def savedVal (S : SavedIn) (a : Option Addr) (cap : Nat) : Value := .agg #[.int .i64 (S.gen : Int), .bool S.has, .string ⟨S.base.toArray⟩, .slice a S.recs.length cap]
def noSaved : Value := .agg #[.int .i64 0, .bool false, .string ⟨#[]⟩, .slice none 0 0]
/-- Records that a value of the program's holds: they lie in blocks of their own. -/
structure Recs (W : World) (B : Nat) (a : Option Addr) (l : List (List UInt8)) : Prop where
  lie : Strs W a (rows l)
  own : ∀ x, a = some x → B ≤ x.block ∧ x.block < W.heap.size
/-- What is answered: the journal, and what is saved, or an error. -/
def OpenRes (W' : World) (B g : Nat) (S : SavedIn) (z : Int) (e : Ending) : Prop :=
  (z = 0 → ∃ j a cap, e = .returned (.tuple #[.pointer (some ⟨j, 0, none⟩), savedVal S a cap, .int .i64 0]) ∧ JR W' j g (S.gen : Int) (S.recs.length : Int) false ∧ B ≤ j ∧ Recs W' B a S.recs ∧ (a = none → cap = 0)) ∧
  (z ≠ 0 → e = .returned (.tuple #[.pointer none, noSaved, .int .i64 z]))
theorem read_snap {d : DkIn} {has : Bool} {gen : Nat} {base : List UInt8} (hd : d.dead = false) (h : SnapOk d.files has gen base) : readV d snapN = if has then (fileB gen base, 0) else ([], 3) := by
  rw [read_live hd, h.file]
  cases has <;> rfl
theorem read_log {d : DkIn} (hd : d.dead = false) : (readV d logN).1 = logB d := by
  rw [read_live hd]
  unfold logB
  cases find logN d.files <;> rfl
theorem log_len {d : DkIn} : (logB d).length ≤ bytesOf d.files := by
  unfold logB
  cases hq : find logN d.files with
  | none => exact Nat.zero_le _
  | some f => have := bytes_found hq; dsimp only; omega
def z4 : Array Value := #[.int .i64 0, .bool false, .string ⟨#[]⟩, .slice none 0 0]
/-- What lies while a journal is opened. -/
structure OS (w W : World) (g m : Nat) (v0 v1 v2 v3 : Value) : Prop where
  bx : Bx g m w W
  out : W.heap[w.heap.size + 1]? = some (.cells #[v0, v1, v2, v3] 33)
  res : W.heap[w.heap.size]? = some (.cells #[.int .i64 0, .bool false, .string ⟨#[]⟩, .slice none 0 0] 33)
  gl : g < w.heap.size
  ml : m < w.heap.size
theorem OS.lt {w W : World} {g m : Nat} {v0 v1 v2 v3 : Value} (h : OS w W g m v0 v1 v2 v3) : w.heap.size < W.heap.size ∧ w.heap.size + 1 < W.heap.size := ⟨(Array.getElem?_eq_some_iff.1 h.res).1, (Array.getElem?_eq_some_iff.1 h.out).1⟩
theorem OS.step {w W W' : World} {g m : Nat} {v0 v1 v2 v3 : Value} (h : OS w W g m v0 v1 v2 v3) (hx : Bx g m W W') : OS w W' g m v0 v1 v2 v3 := by
  have h1 := h.gl
  have h2 := h.ml
  exact ⟨h.bx.trans hx, (hx.block _ h.lt.2 (by omega) (by omega)).trans h.out, (hx.block _ h.lt.1 (by omega) (by omega)).trans h.res, h.gl, h.ml⟩
theorem OS.flat {w W : World} {g m : Nat} {v0 v1 v2 v3 : Value} (h : OS w W g m v0 v1 v2 v3) :
    W.cell? ⟨w.heap.size + 1, 0, none⟩ = some v0 ∧ W.cell? ⟨w.heap.size + 1, 1, none⟩ = some v1 ∧ W.cell? ⟨w.heap.size + 1, 2, none⟩ = some v2 ∧ W.cell? ⟨w.heap.size + 1, 3, none⟩ = some v3 ∧
    W.frozen? ⟨w.heap.size + 1, 0, none⟩ = false ∧ W.frozen? ⟨w.heap.size + 1, 1, none⟩ = false ∧ W.frozen? ⟨w.heap.size + 1, 2, none⟩ = false ∧ W.frozen? ⟨w.heap.size + 1, 3, none⟩ = false :=
  ⟨cell_of_row W _ 0 _ _ _ h.out, cell_of_row W _ 1 _ _ _ h.out, cell_of_row W _ 2 _ _ _ h.out, cell_of_row W _ 3 _ _ _ h.out, frozen_of_row W _ 0 _ _ h.out, frozen_of_row W _ 1 _ _ h.out, frozen_of_row W _ 2 _ _ h.out, frozen_of_row W _ 3 _ _ h.out⟩
theorem OS.flat2 {w W : World} {g m : Nat} {v0 v1 v2 v3 : Value} (h : OS w W g m v0 v1 v2 v3) :
    W.cell? ⟨w.heap.size, 0, none⟩ = some (.int .i64 0) ∧ W.cell? ⟨w.heap.size, 1, none⟩ = some (.bool false) ∧ W.cell? ⟨w.heap.size, 2, none⟩ = some (.string ⟨#[]⟩) ∧ W.cell? ⟨w.heap.size, 3, none⟩ = some (.slice none 0 0) ∧
    W.frozen? ⟨w.heap.size, 0, none⟩ = false ∧ W.frozen? ⟨w.heap.size, 1, none⟩ = false ∧ W.frozen? ⟨w.heap.size, 2, none⟩ = false ∧ W.frozen? ⟨w.heap.size, 3, none⟩ = false :=
  ⟨cell_of_row W _ 0 _ _ _ h.res, cell_of_row W _ 1 _ _ _ h.res, cell_of_row W _ 2 _ _ _ h.res, cell_of_row W _ 3 _ _ _ h.res, frozen_of_row W _ 0 _ _ h.res, frozen_of_row W _ 1 _ _ h.res, frozen_of_row W _ 2 _ _ h.res, frozen_of_row W _ 3 _ _ h.res⟩
theorem OS.start (w : World) (g m : Nat) (hg : g < w.heap.size) (hm : m < w.heap.size) : OS w ((w.alloc (.cells #[.int .i64 0, .bool false, .string ⟨#[]⟩, .slice none 0 0] 33)).alloc (.cells #[.int .i64 0, .bool false, .string ⟨#[]⟩, .slice none 0 0] 33)) g m (.int .i64 0) (.bool false) (.string ⟨#[]⟩) (.slice none 0 0) :=
  ⟨Bx.below (below_al (below_al (Below.refl _ _) _) _), heap_alloc2_new w _ _, heap_alloc2_old w _ _, hg, hm⟩
theorem OS.set {w W : World} {g m : Nat} {v0 v1 v2 v3 : Value} (h : OS w W g m v0 v1 v2 v3) (i : Nat) (x : Value) (u0 u1 u2 u3 : Value) (e : (#[v0, v1, v2, v3] : Array Value).setIfInBounds i x = #[u0, u1, u2, u3]) : OS w (W.setCell ⟨w.heap.size + 1, i, none⟩ x) g m u0 u1 u2 u3 := by
  have e1 := heap_setCell_same W (w.heap.size + 1) i _ _ x h.out
  rw [e] at e1
  exact ⟨⟨h.bx.os, h.bx.tape, h.bx.output, by have := h.bx.size; simpa using this, fun k hk h1 h2 => (heap_setCell_other W ⟨w.heap.size + 1, i, none⟩ k x (by show k ≠ w.heap.size + 1; omega)).trans (h.bx.block k hk h1 h2)⟩, e1, (heap_setCell_other W ⟨w.heap.size + 1, i, none⟩ w.heap.size x (by show w.heap.size ≠ w.heap.size + 1; omega)).trans h.res, h.gl, h.ml⟩
theorem OS.set3 {w W : World} {g m : Nat} {v0 v1 v2 v3 : Value} (h : OS w W g m v0 v1 v2 v3) (x : Value) : OS w (W.setCell ⟨w.heap.size + 1, 3, none⟩ x) g m v0 v1 v2 x := h.set 3 x v0 v1 v2 x rfl
theorem below_setR {w W : World} (h : Below w.heap.size w W) (x : Value) : Below w.heap.size w (W.setCell ⟨w.heap.size + 1, 3, none⟩ x) := h.setCell (Nat.le_succ _) _
theorem below_set3 {w W : World} (h : Below w.heap.size w W) (x y z : Value) : Below w.heap.size w (((W.setCell ⟨w.heap.size + 1, 0, none⟩ x).setCell ⟨w.heap.size + 1, 2, none⟩ y).setCell ⟨w.heap.size + 1, 1, none⟩ z) :=
  ((h.setCell (Nat.le_succ _) _).setCell (Nat.le_succ _) _).setCell (Nat.le_succ _) _
theorem set4_heap (W : World) (a : Nat) (x0 x1 x2 x3 : Value) (v0 v1 v2 v3 : Value) (T : TypeId) (h : W.heap[a]? = some (.cells #[v0, v1, v2, v3] T)) :
    ((((W.setCell ⟨a, 0, none⟩ x0).setCell ⟨a, 1, none⟩ x1).setCell ⟨a, 2, none⟩ x2).setCell ⟨a, 3, none⟩ x3).heap[a]? = some (.cells #[x0, x1, x2, x3] T) ∧ (∀ k, k ≠ a → ((((W.setCell ⟨a, 0, none⟩ x0).setCell ⟨a, 1, none⟩ x1).setCell ⟨a, 2, none⟩ x2).setCell ⟨a, 3, none⟩ x3).heap[k]? = W.heap[k]?) ∧ ((((W.setCell ⟨a, 0, none⟩ x0).setCell ⟨a, 1, none⟩ x1).setCell ⟨a, 2, none⟩ x2).setCell ⟨a, 3, none⟩ x3).heap.size = W.heap.size := by
  refine ⟨?_, fun k hk => ?_, by simp⟩
  · have e1 := heap_setCell_same W a 0 _ T x0 h
    have e2 := heap_setCell_same _ a 1 _ T x1 e1
    have e3 := heap_setCell_same _ a 2 _ T x2 e2
    have e4 := heap_setCell_same _ a 3 _ T x3 e3
    exact e4
  · exact (heap_setCell_other _ ⟨a, 3, none⟩ k x3 hk).trans ((heap_setCell_other _ ⟨a, 2, none⟩ k x2 hk).trans ((heap_setCell_other _ ⟨a, 1, none⟩ k x1 hk).trans (heap_setCell_other _ ⟨a, 0, none⟩ k x0 hk)))
/-- What is behind the end, where a journal is made. -/
theorem open_fin {w W : World} {g m : Nat} {v0 v1 v2 v3 : Value} (h : OS w W g m v0 v1 v2 v3) (x0 x1 x2 x3 : Value) (G cnt : Int) {n : Nat} {d : DkIn} (hp : PD W g m n d) (WF : World)
    (e : WF = (((((W.setCell ⟨w.heap.size, 0, none⟩ x0).setCell ⟨w.heap.size, 1, none⟩ x1).setCell ⟨w.heap.size, 2, none⟩ x2).setCell ⟨w.heap.size, 3, none⟩ x3).alloc (.cells #[.pointer (some ⟨g, 0, none⟩), .int .i64 G, .int .i64 cnt, .bool false] 46)).drew) :
    WF.heap[w.heap.size]? = some (.cells #[x0, x1, x2, x3] 33) ∧ Bx g m w WF ∧ PD WF g m n d ∧ JR WF W.heap.size g G cnt false ∧ (∀ k, k < W.heap.size → k ≠ w.heap.size → WF.heap[k]? = W.heap[k]?) ∧ WF.heap.size = W.heap.size + 1 := by
  obtain ⟨s1, s2, s3⟩ := set4_heap W w.heap.size x0 x1 x2 x3 _ _ _ _ _ h.res
  have hl := h.lt.1
  have hg := h.gl
  have hm := h.ml
  subst e
  generalize hV : (((W.setCell ⟨w.heap.size, 0, none⟩ x0).setCell ⟨w.heap.size, 1, none⟩ x1).setCell ⟨w.heap.size, 2, none⟩ x2).setCell ⟨w.heap.size, 3, none⟩ x3 = V at *
  have hos : V.os = W.os ∧ V.tape = W.tape ∧ V.output = W.output := by rw [← hV]; exact ⟨rfl, rfl, rfl⟩
  have ha : ∀ k, k < W.heap.size → ∀ o, ((V.alloc o).drew).heap[k]? = V.heap[k]? := fun k hk o => Below.heap_alloc V o k (by rw [s3]; exact hk)
  have gr : W.grownBy V (some w.heap.size) := ⟨hos.1, hos.2.1, hos.2.2, by rw [s3]; exact Nat.le_refl _, fun k hk hne => s2 k fun e => hne (by rw [e])⟩
  refine ⟨(ha _ hl _).trans s1, ?_, pd_drew ((hp.grown gr (by intro e; cases e; omega) (by intro e; cases e; omega)).below (below_al (Below.refl _ _) _)), ?_, fun k hk hne => (ha k hk _).trans (s2 k hne), by show (V.alloc _).heap.size = _; simp [s3]⟩
  · refine ⟨hos.1.trans h.bx.os, hos.2.1.trans h.bx.tape, hos.2.2.trans h.bx.output, ?_, fun k hk h1 h2 => ((ha k (Nat.lt_of_lt_of_le hk h.bx.size) _).trans (s2 k (by omega))).trans (h.bx.block k hk h1 h2)⟩
    have := h.bx.size
    show w.heap.size ≤ (V.alloc _).heap.size
    simp [s3]
    omega
  · have hr := World.rowIs_alloc V #[.pointer (some ⟨g, 0, none⟩), .int .i64 G, .int .i64 cnt, .bool false] 46 (cellJ g G cnt false) (fun i hi => by
      match i, hi with
      | 0, _ => rfl
      | 1, _ => rfl
      | 2, _ => rfl
      | 3, _ => rfl)
    rw [s3] at hr
    exact ⟨hr⟩
/-- What is behind the end, where an error is told. -/
theorem open_bad {w W : World} {g m : Nat} {v0 v1 v2 v3 : Value} (h : OS w W g m v0 v1 v2 v3) (x0 x1 x2 x3 : Value) {n : Nat} {d : DkIn} (hp : PD W g m n d) (V : World)
    (e : V = (((W.setCell ⟨w.heap.size, 0, none⟩ x0).setCell ⟨w.heap.size, 1, none⟩ x1).setCell ⟨w.heap.size, 2, none⟩ x2).setCell ⟨w.heap.size, 3, none⟩ x3) :
    V.heap[w.heap.size]? = some (.cells #[x0, x1, x2, x3] 33) ∧ Bx g m w V ∧ PD V g m n d := by
  obtain ⟨s1, s2, s3⟩ := set4_heap W w.heap.size x0 x1 x2 x3 _ _ _ _ _ h.res
  have hl := h.lt.1
  have hg := h.gl
  have hm := h.ml
  rw [← e] at s1 s2 s3
  have hos : V.os = W.os ∧ V.tape = W.tape ∧ V.output = W.output := by rw [e]; exact ⟨rfl, rfl, rfl⟩
  have gr : W.grownBy V (some w.heap.size) := ⟨hos.1, hos.2.1, hos.2.2, by rw [s3]; exact Nat.le_refl _, fun k hk hne => s2 k fun e => hne (by rw [e])⟩
  refine ⟨s1, ⟨hos.1.trans h.bx.os, hos.2.1.trans h.bx.tape, hos.2.2.trans h.bx.output, by rw [s3]; exact h.bx.size, fun k hk h1 h2 => (s2 k (by omega)).trans (h.bx.block k hk h1 h2)⟩, hp.grown gr (by intro e; cases e; omega) (by intro e; cases e; omega)⟩
theorem strs_keep {W V : World} {a : Option Addr} {l : List ByteArray} (h : Strs W a l) (hk : ∀ x, a = some x → V.heap[x.block]? = W.heap[x.block]? ∧ x.block < V.heap.size) : Strs V a l := fun i hi => by
  obtain ⟨b, off, e, hb, hc⟩ := h i hi
  obtain ⟨k1, k2⟩ := hk _ e
  exact ⟨b, off, e, k2, (World.cell?_of_block (a := ⟨b, off + i, none⟩) k1).trans hc⟩
theorem recs_fin {W V : World} {B sg sc : Nat} {r : List UInt8} {l : List (List UInt8)} (h : Lie W sg (r :: l) sc) (hs : B + 1 < sg) (hk : V.heap[sg]? = W.heap[sg]?) (hl : sg < V.heap.size) : Recs V B (if sc = 1 then some ⟨sg, 0, none⟩ else some ⟨sg, 1, none⟩) l := by
  by_cases h1 : sc = 1
  · rw [if_pos h1]
    exact ⟨strs_keep (h.tail0 (by omega)).1 fun x e => by cases e; exact ⟨hk, hl⟩, fun x e => by cases e; exact ⟨by show B ≤ sg; omega, hl⟩⟩
  · rw [if_neg h1]
    exact ⟨strs_keep h.tail.1 fun x e => by cases e; exact ⟨hk, hl⟩, fun x e => by cases e; exact ⟨by show B ≤ sg; omega, hl⟩⟩

set_option maxHeartbeats 8000000 in
theorem open_true_A (w : World) (g m k B : Nat) (d : DkIn) (h : PG w g m d k B) (hk : k < 800000) (S : SavedIn) (hR : Rest d S) (hgen : S.gen ≤ 1000000) (hbase : S.base.length ≤ 100000) (hrecs : S.recs.length ≤ 100000) (hh : S.has = true) (x u : Nat) (l : List (List UInt8)) (hxg : x < S.gen) (hsc : scan (logB d) = (headL x :: l, u)) (hl : l.length ≤ 1000000) (hrn : S.recs = []) : Calls Try.prog 9 #[.pointer (some ⟨g, 0, none⟩)] w fun e w' => OpenRes w' w.heap.size g S (openV d S.gen).1 e ∧ Hid (PD w' g m (openV d S.gen).2.files.length (openV d S.gen).2) ∧ Hid (Bx g m w w') := by
  obtain ⟨h1, h2, h3⟩ := hR.log
  have HPD := Lib.hid h.pd
  obtain ⟨hgl, hml⟩ := h.pd.lt
  have CD : Hid (∀ W, Below w.heap.size w W → Calls Try.prog 21 #[.pointer (some ⟨g, 0, none⟩)] W fun e w' => e = .returned (.bool false) ∧ W = w') := fun W hb => by
    have := dead_any W g m _ d (h.pd.below hb)
    rw [hR.live] at this
    exact this
  obtain ⟨LB, hLB⟩ : ∃ F : ByteArray, F.data.toList = logB d := ⟨⟨(logB d).toArray⟩, rfl⟩
  have lsz : LB.size ≤ 16777216 := by
    rw [← sz_list, hLB]
    exact Nat.le_trans log_len h.gr.lens.2
  obtain ⟨zl, hzl⟩ : ∃ z, Hid ((readV d logN).2 = z) := ⟨_, rfl⟩
  have CL : Hid (∀ W, Below w.heap.size w W → Calls Try.prog 22 #[.pointer (some ⟨g, 0, none⟩), .string ⟨#[108, 111, 103]⟩] W fun e w' => e = .returned (.tuple #[.string LB, .int .i64 zl]) ∧ Below W.heap.size W w') := fun W hb => by
    have : Calls Try.prog 22 #[.pointer (some ⟨g, 0, none⟩), .string ⟨#[108, 111, 103]⟩] W fun e w' => e = .returned (.tuple #[.string ⟨(readV d logN).1.toArray⟩, .int .i64 (readV d logN).2]) ∧ Below W.heap.size W w' := read_any W g m _ d (h.pd.below hb) ⟨#[108, 111, 103]⟩ (by decide)
    rw [read_log hR.live, ← hLB, hzl.out] at this
    exact this
  obtain ⟨BA, hBA⟩ : ∃ F : ByteArray, Hid (F.data.toList = S.base) := ⟨⟨S.base.toArray⟩, rfl⟩
  have hBA2 : Hid ((⟨S.base.toArray⟩ : ByteArray) = BA) := ba_of_list hBA.out.symm
  obtain ⟨G, hG⟩ : ∃ G : Int, Hid ((S.gen : Int) = G) := ⟨_, rfl⟩
  have G0 : 0 ≤ G := by have := hG.out; omega
  obtain ⟨F, hF⟩ : ∃ F : ByteArray, F.data.toList = fileB S.gen S.base := ⟨⟨(fileB S.gen S.base).toArray⟩, rfl⟩
  have CS : Hid (∀ W, Below w.heap.size w W → Calls Try.prog 22 #[.pointer (some ⟨g, 0, none⟩), .string ⟨#[115, 110, 97, 112]⟩] W fun e w' => e = .returned (.tuple #[.string F, .int .i64 0]) ∧ Below W.heap.size W w') := fun W hb => by
    have := read_any W g m _ d (h.pd.below hb) ⟨#[115, 110, 97, 112]⟩ (by decide)
    rw [show readV d (ByteArray.mk #[115, 110, 97, 112]).data.toList = _ from read_snap hR.live h1, hh, if_pos rfl, ← hF] at this
    exact this
  have CN : Hid (∀ W, Calls Try.prog 23 #[.string F] W fun e w' => e = .returned (.tuple #[.int .i64 G, .string BA, .bool true]) ∧ Below W.heap.size W w') := fun W => by
    have := snapshot_any S.gen (h1.yes hh) (by omega) BA (by rw [← sz_list, hBA.out]; exact hbase) F (by rw [hF, hBA.out]) W
    rw [hG.out] at this
    exact this
  obtain ⟨n, hn⟩ : ∃ n, Hid (l.length + 1 = n) := ⟨_, rfl⟩
  obtain ⟨X, hX⟩ : ∃ X : Int, Hid ((x : Int) = X) := ⟨_, rfl⟩
  have dg1 : decide (G < X) = false := decide_eq_false (by have := hX.out; have := hG.out; omega)
  have dl1 : decide (X < G) = true := decide_eq_true (by have := hX.out; have := hG.out; omega)
  have dg1' : ¬ G < X := of_decide_eq_false dg1
  have dl1' : X < G := of_decide_eq_true dl1
  have SC : Hid (∀ W, Calls Try.prog 24 #[.string LB] W fun e w' => (∃ g cap, e = .returned (.tuple #[.slice (some ⟨g, 0, none⟩) n cap, .int .i64 (u : Int)]) ∧ Lie w' g (headL x :: l) cap ∧ W.heap.size ≤ g) ∧ Below W.heap.size W w') := fun W => by
    have := scan_yes LB (by omega) _ _ _ (by rw [hLB]; exact hsc) W
    rw [hn.out] at this
    exact this
  have GE : Hid (∀ W sg sc, Lie W sg (headL x :: l) sc → Calls Try.prog 25 #[.slice (some ⟨sg, 0, none⟩) n sc] W fun e w' => e = .returned (.tuple #[.int .i64 X, .bool true]) ∧ Below W.heap.size W w') := fun W sg sc hL => by
    have := gen_yes x (by omega) l sg sc W hL hl
    rw [hn.out, hX.out] at this
    exact this
  have eo : openV d S.gen = beginsV d S.gen := by
    unfold openV
    rw [hsc]
    dsimp only
    rw [headL_gen, num_num8 x (by omega), if_pos hxg]
  have CB : Hid (∀ W, PD W g m d.files.length d → Calls Try.prog 26 #[.pointer (some ⟨g, 0, none⟩), .int .i64 G] W fun e w' => e = .returned (.int .i64 (beginsV d S.gen).1) ∧ Hid (PD w' g m (beginsV d S.gen).2.files.length (beginsV d S.gen).2) ∧ Hid (Bx g m W w')) := fun W hp => by
    have := begins_pg W g m k B d ⟨hp, h.gr⟩ (by omega) S.gen (by omega)
    rw [hG.out] at this
    exact this
  rw [eo]
  generalize beginsV d S.gen = R at *
  obtain ⟨z, d1⟩ := R
  dsimp only at *
  clear h hR h1 h2 h3 hF hLB hsc eo
  by_cases h0 : z = 0
  · subst h0
    go_enter Try.func9, Try.ntmps9
    go_upto_region 25 with (first
      | (go_at_call 21; (with_reducible refine (CD.out _ (below_al (Below.refl _ _) _)).mono ?_); rintro e wd ⟨rfl, rfl⟩)
      | (go_at_call 22; (with_reducible refine (CS.out _ (below_al (below_al (Below.refl _ _) _) _)).mono ?_); rintro e w1 ⟨rfl, hb1⟩; have HO1 := Lib.hid ((OS.start w g m hgl hml).step (Bx.below hb1)); have HA1 := Lib.hid (below2 (below_al (below_al (Below.refl _ _) _) _) hb1); clear hb1)
      | (go_at_call 23; (with_reducible refine (CN.out _).mono ?_); rintro e w2 ⟨rfl, hb2⟩; have HO2 := Lib.hid (HO1.out.step (Bx.below hb2)); have HA2 := Lib.hid (below2 HA1.out hb2); clear hb2; obtain ⟨p0, p1, p2, p3, p4, p5, p6, p7⟩ := HO2.out.flat; have HO3 := Lib.hid (((HO2.out.set 0 (.int .i64 G) _ _ _ _ rfl).set 2 (.string BA) _ _ _ _ rfl).set 1 (.bool true) _ _ _ _ rfl); have HA3 := Lib.hid (below_set3 HA2.out (.int .i64 G) (.string BA) (.bool true)))
      | (go_at_call 22; (with_reducible refine (CL.out _ HA3.out).mono ?_); rintro e w4 ⟨rfl, hb4⟩; have HO4 := Lib.hid (HO3.out.step (Bx.below hb4)); have HA4 := Lib.hid (below2 HA3.out hb4); clear hb4)
      | (go_at_call 24; (with_reducible refine (SC.out _).mono ?_); rintro e w5 ⟨⟨sg, sc, rfl, hLie, hge⟩, hb5⟩; have HLI := Lib.hid hLie; have HGE := Lib.hid (Nat.lt_of_lt_of_le HO4.out.lt.2 hge); have HO5 := Lib.hid (HO4.out.step (Bx.below hb5)); have HA5 := Lib.hid (below2 HA4.out hb5); have hcap : n ≤ sc := (by have := hLie.fits; have := hn.out; simp at *; omega); have hmost := hLie.most; clear hb5 hLie hge)
      | (go_at_call 25; (with_reducible refine (GE.out _ _ _ HLI.out).mono ?_); rintro e w6 ⟨rfl, hb6⟩; have HO6 := Lib.hid (HO5.out.step (Bx.below hb6)); have HA6 := Lib.hid (below2 HA5.out hb6); have HL6 := Lib.hid (HLI.out.below hb6); clear hb6; obtain ⟨q0, q1, q2, q3, q4, q5, q6, q7⟩ := HO6.out.flat)
      | (go_at_call 26; (with_reducible refine (CB.out _ (HPD.out.below HA6.out)).mono ?_); rintro e w7 ⟨rfl, HP7, HX7⟩; have HO7 := Lib.hid (HO6.out.step HX7.out); obtain ⟨r0, r1, r2, r3, r4, r5, r6, r7⟩ := HO7.out.flat))
    all_goals
      obtain ⟨t0, t1, t2, t3, t4, t5, t6, t7⟩ := HO7.out.flat2
      obtain ⟨l7a, l7b⟩ := HO7.out.lt
      go_region
      go_wp2
      obtain ⟨f1, f2, f3, f4, f5, f6⟩ := open_fin HO7.out (.int .i64 G) (.bool true) (.string BA) (.slice none 0 0) G 0 HP7.out _ rfl
      refine bodyPost_ret (ret_saved rfl _ _ w.heap.size _ _ _ _ _ _ rfl rfl rfl f1) rfl ⟨⟨fun _ => ⟨w7.heap.size, none, 0, ?_, ?_, ?_, ?_, fun _ => rfl⟩, fun h => absurd rfl h⟩, f3, f2⟩
      · rw [savedVal, hrn, hBA2.out, hG.out, hh]; rfl
      · rw [hrn, hG.out]; exact f4
      · exact Nat.le_trans (Nat.le_succ _) (Nat.le_of_lt l7b)
      · rw [hrn]; exact ⟨fun i hi => absurd hi (Nat.not_lt_zero i), fun x hx => by cases hx⟩
  · have e0 : (z != 0) = true := bne_iff_ne.2 h0
    go_enter Try.func9, Try.ntmps9
    go_wp2_with (first
      | (go_at_call 21; (with_reducible refine (CD.out _ (below_al (Below.refl _ _) _)).mono ?_); rintro e wd ⟨rfl, rfl⟩)
      | (go_at_call 22; (with_reducible refine (CS.out _ (below_al (below_al (Below.refl _ _) _) _)).mono ?_); rintro e w1 ⟨rfl, hb1⟩; have HO1 := Lib.hid ((OS.start w g m hgl hml).step (Bx.below hb1)); have HA1 := Lib.hid (below2 (below_al (below_al (Below.refl _ _) _) _) hb1); clear hb1)
      | (go_at_call 23; (with_reducible refine (CN.out _).mono ?_); rintro e w2 ⟨rfl, hb2⟩; have HO2 := Lib.hid (HO1.out.step (Bx.below hb2)); have HA2 := Lib.hid (below2 HA1.out hb2); clear hb2; obtain ⟨p0, p1, p2, p3, p4, p5, p6, p7⟩ := HO2.out.flat; have HO3 := Lib.hid (((HO2.out.set 0 (.int .i64 G) _ _ _ _ rfl).set 2 (.string BA) _ _ _ _ rfl).set 1 (.bool true) _ _ _ _ rfl); have HA3 := Lib.hid (below_set3 HA2.out (.int .i64 G) (.string BA) (.bool true)))
      | (go_at_call 22; (with_reducible refine (CL.out _ HA3.out).mono ?_); rintro e w4 ⟨rfl, hb4⟩; have HO4 := Lib.hid (HO3.out.step (Bx.below hb4)); have HA4 := Lib.hid (below2 HA3.out hb4); clear hb4)
      | (go_at_call 24; (with_reducible refine (SC.out _).mono ?_); rintro e w5 ⟨⟨sg, sc, rfl, hLie, hge⟩, hb5⟩; have HLI := Lib.hid hLie; have HGE := Lib.hid (Nat.lt_of_lt_of_le HO4.out.lt.2 hge); have HO5 := Lib.hid (HO4.out.step (Bx.below hb5)); have HA5 := Lib.hid (below2 HA4.out hb5); have hcap : n ≤ sc := (by have := hLie.fits; have := hn.out; simp at *; omega); have hmost := hLie.most; clear hb5 hLie hge)
      | (go_at_call 25; (with_reducible refine (GE.out _ _ _ HLI.out).mono ?_); rintro e w6 ⟨rfl, hb6⟩; have HO6 := Lib.hid (HO5.out.step (Bx.below hb6)); have HA6 := Lib.hid (below2 HA5.out hb6); have HL6 := Lib.hid (HLI.out.below hb6); clear hb6; obtain ⟨q0, q1, q2, q3, q4, q5, q6, q7⟩ := HO6.out.flat)
      | (go_at_call 26; (with_reducible refine (CB.out _ (HPD.out.below HA6.out)).mono ?_); rintro e w7 ⟨rfl, HP7, HX7⟩; have HO7 := Lib.hid (HO6.out.step HX7.out); obtain ⟨r0, r1, r2, r3, r4, r5, r6, r7⟩ := HO7.out.flat; obtain ⟨t0, t1, t2, t3, t4, t5, t6, t7⟩ := HO7.out.flat2))
    all_goals
      go_wp2
      obtain ⟨f1, f2, f3⟩ := open_bad HO7.out (.int .i64 0) (.bool false) (.string ⟨#[]⟩) (.slice none 0 0) HP7.out _ rfl
      exact bodyPost_ret (ret_saved rfl _ _ w.heap.size _ _ _ _ _ _ rfl rfl rfl f1) rfl ⟨⟨fun h => absurd h h0, fun _ => rfl⟩, f3, f2⟩
set_option maxHeartbeats 8000000 in
theorem open_true_B (w : World) (g m k B : Nat) (d : DkIn) (h : PG w g m d k B) (hk : k < 800000) (S : SavedIn) (hR : Rest d S) (hgen : S.gen ≤ 1000000) (hbase : S.base.length ≤ 100000) (hrecs : S.recs.length ≤ 100000) (hh : S.has = true) (hsc : scan (logB d) = ([], 0)) (hrn : S.recs = []) : Calls Try.prog 9 #[.pointer (some ⟨g, 0, none⟩)] w fun e w' => OpenRes w' w.heap.size g S (openV d S.gen).1 e ∧ Hid (PD w' g m (openV d S.gen).2.files.length (openV d S.gen).2) ∧ Hid (Bx g m w w') := by
  obtain ⟨h1, h2, h3⟩ := hR.log
  have HPD := Lib.hid h.pd
  obtain ⟨hgl, hml⟩ := h.pd.lt
  have CD : Hid (∀ W, Below w.heap.size w W → Calls Try.prog 21 #[.pointer (some ⟨g, 0, none⟩)] W fun e w' => e = .returned (.bool false) ∧ W = w') := fun W hb => by
    have := dead_any W g m _ d (h.pd.below hb)
    rw [hR.live] at this
    exact this
  obtain ⟨LB, hLB⟩ : ∃ F : ByteArray, F.data.toList = logB d := ⟨⟨(logB d).toArray⟩, rfl⟩
  have lsz : LB.size ≤ 16777216 := by
    rw [← sz_list, hLB]
    exact Nat.le_trans log_len h.gr.lens.2
  obtain ⟨zl, hzl⟩ : ∃ z, Hid ((readV d logN).2 = z) := ⟨_, rfl⟩
  have CL : Hid (∀ W, Below w.heap.size w W → Calls Try.prog 22 #[.pointer (some ⟨g, 0, none⟩), .string ⟨#[108, 111, 103]⟩] W fun e w' => e = .returned (.tuple #[.string LB, .int .i64 zl]) ∧ Below W.heap.size W w') := fun W hb => by
    have : Calls Try.prog 22 #[.pointer (some ⟨g, 0, none⟩), .string ⟨#[108, 111, 103]⟩] W fun e w' => e = .returned (.tuple #[.string ⟨(readV d logN).1.toArray⟩, .int .i64 (readV d logN).2]) ∧ Below W.heap.size W w' := read_any W g m _ d (h.pd.below hb) ⟨#[108, 111, 103]⟩ (by decide)
    rw [read_log hR.live, ← hLB, hzl.out] at this
    exact this
  obtain ⟨BA, hBA⟩ : ∃ F : ByteArray, Hid (F.data.toList = S.base) := ⟨⟨S.base.toArray⟩, rfl⟩
  have hBA2 : Hid ((⟨S.base.toArray⟩ : ByteArray) = BA) := ba_of_list hBA.out.symm
  obtain ⟨G, hG⟩ : ∃ G : Int, Hid ((S.gen : Int) = G) := ⟨_, rfl⟩
  have G0 : 0 ≤ G := by have := hG.out; omega
  obtain ⟨F, hF⟩ : ∃ F : ByteArray, F.data.toList = fileB S.gen S.base := ⟨⟨(fileB S.gen S.base).toArray⟩, rfl⟩
  have CS : Hid (∀ W, Below w.heap.size w W → Calls Try.prog 22 #[.pointer (some ⟨g, 0, none⟩), .string ⟨#[115, 110, 97, 112]⟩] W fun e w' => e = .returned (.tuple #[.string F, .int .i64 0]) ∧ Below W.heap.size W w') := fun W hb => by
    have := read_any W g m _ d (h.pd.below hb) ⟨#[115, 110, 97, 112]⟩ (by decide)
    rw [show readV d (ByteArray.mk #[115, 110, 97, 112]).data.toList = _ from read_snap hR.live h1, hh, if_pos rfl, ← hF] at this
    exact this
  have CN : Hid (∀ W, Calls Try.prog 23 #[.string F] W fun e w' => e = .returned (.tuple #[.int .i64 G, .string BA, .bool true]) ∧ Below W.heap.size W w') := fun W => by
    have := snapshot_any S.gen (h1.yes hh) (by omega) BA (by rw [← sz_list, hBA.out]; exact hbase) F (by rw [hF, hBA.out]) W
    rw [hG.out] at this
    exact this
  have dg1 : decide (G < -1) = false := decide_eq_false (by omega)
  have dl1 : decide (-1 < G) = true := decide_eq_true (by omega)
  have dg1' : ¬ G < -1 := of_decide_eq_false dg1
  have dl1' : -1 < G := of_decide_eq_true dl1
  have SC : Hid (∀ W, Calls Try.prog 24 #[.string LB] W fun e w' => (∃ a cap, e = .returned (.tuple #[.slice a 0 cap, .int .i64 0])) ∧ Below W.heap.size W w') := fun W => scan_no LB (by omega) 0 (by rw [hLB]; exact hsc) W
  have eo : openV d S.gen = beginsV d S.gen := by
    unfold openV
    rw [hsc]
  have CB : Hid (∀ W, PD W g m d.files.length d → Calls Try.prog 26 #[.pointer (some ⟨g, 0, none⟩), .int .i64 G] W fun e w' => e = .returned (.int .i64 (beginsV d S.gen).1) ∧ Hid (PD w' g m (beginsV d S.gen).2.files.length (beginsV d S.gen).2) ∧ Hid (Bx g m W w')) := fun W hp => by
    have := begins_pg W g m k B d ⟨hp, h.gr⟩ (by omega) S.gen (by omega)
    rw [hG.out] at this
    exact this
  rw [eo]
  generalize beginsV d S.gen = R at *
  obtain ⟨z, d1⟩ := R
  dsimp only at *
  clear h hR h1 h2 h3 hF hLB hsc eo
  by_cases h0 : z = 0
  · subst h0
    go_enter Try.func9, Try.ntmps9
    go_upto_region 25 with (first
      | (go_at_call 21; (with_reducible refine (CD.out _ (below_al (Below.refl _ _) _)).mono ?_); rintro e wd ⟨rfl, rfl⟩)
      | (go_at_call 22; (with_reducible refine (CS.out _ (below_al (below_al (Below.refl _ _) _) _)).mono ?_); rintro e w1 ⟨rfl, hb1⟩; have HO1 := Lib.hid ((OS.start w g m hgl hml).step (Bx.below hb1)); have HA1 := Lib.hid (below2 (below_al (below_al (Below.refl _ _) _) _) hb1); clear hb1)
      | (go_at_call 23; (with_reducible refine (CN.out _).mono ?_); rintro e w2 ⟨rfl, hb2⟩; have HO2 := Lib.hid (HO1.out.step (Bx.below hb2)); have HA2 := Lib.hid (below2 HA1.out hb2); clear hb2; obtain ⟨p0, p1, p2, p3, p4, p5, p6, p7⟩ := HO2.out.flat; have HO3 := Lib.hid (((HO2.out.set 0 (.int .i64 G) _ _ _ _ rfl).set 2 (.string BA) _ _ _ _ rfl).set 1 (.bool true) _ _ _ _ rfl); have HA3 := Lib.hid (below_set3 HA2.out (.int .i64 G) (.string BA) (.bool true)))
      | (go_at_call 22; (with_reducible refine (CL.out _ HA3.out).mono ?_); rintro e w4 ⟨rfl, hb4⟩; have HO4 := Lib.hid (HO3.out.step (Bx.below hb4)); have HA4 := Lib.hid (below2 HA3.out hb4); clear hb4)
      | (go_at_call 24; (with_reducible refine (SC.out _).mono ?_); rintro e w5 ⟨⟨sa, sc, rfl⟩, hb5⟩; have HO5 := Lib.hid (HO4.out.step (Bx.below hb5)); have HA5 := Lib.hid (below2 HA4.out hb5); clear hb5)
      | (go_at_call 25; (with_reducible refine (gen_no sa sc _).mono ?_); rintro e w6 ⟨rfl, rfl⟩; have HO6 := HO5; have HA6 := HA5; obtain ⟨q0, q1, q2, q3, q4, q5, q6, q7⟩ := HO6.out.flat)
      | (go_at_call 26; (with_reducible refine (CB.out _ (HPD.out.below HA6.out)).mono ?_); rintro e w7 ⟨rfl, HP7, HX7⟩; have HO7 := Lib.hid (HO6.out.step HX7.out); obtain ⟨r0, r1, r2, r3, r4, r5, r6, r7⟩ := HO7.out.flat))
    all_goals
      obtain ⟨t0, t1, t2, t3, t4, t5, t6, t7⟩ := HO7.out.flat2
      obtain ⟨l7a, l7b⟩ := HO7.out.lt
      go_region
      go_wp2
      obtain ⟨f1, f2, f3, f4, f5, f6⟩ := open_fin HO7.out (.int .i64 G) (.bool true) (.string BA) (.slice none 0 0) G 0 HP7.out _ rfl
      refine bodyPost_ret (ret_saved rfl _ _ w.heap.size _ _ _ _ _ _ rfl rfl rfl f1) rfl ⟨⟨fun _ => ⟨w7.heap.size, none, 0, ?_, ?_, ?_, ?_, fun _ => rfl⟩, fun h => absurd rfl h⟩, f3, f2⟩
      · rw [savedVal, hrn, hBA2.out, hG.out, hh]; rfl
      · rw [hrn, hG.out]; exact f4
      · exact Nat.le_trans (Nat.le_succ _) (Nat.le_of_lt l7b)
      · rw [hrn]; exact ⟨fun i hi => absurd hi (Nat.not_lt_zero i), fun x hx => by cases hx⟩
  · have e0 : (z != 0) = true := bne_iff_ne.2 h0
    go_enter Try.func9, Try.ntmps9
    go_wp2_with (first
      | (go_at_call 21; (with_reducible refine (CD.out _ (below_al (Below.refl _ _) _)).mono ?_); rintro e wd ⟨rfl, rfl⟩)
      | (go_at_call 22; (with_reducible refine (CS.out _ (below_al (below_al (Below.refl _ _) _) _)).mono ?_); rintro e w1 ⟨rfl, hb1⟩; have HO1 := Lib.hid ((OS.start w g m hgl hml).step (Bx.below hb1)); have HA1 := Lib.hid (below2 (below_al (below_al (Below.refl _ _) _) _) hb1); clear hb1)
      | (go_at_call 23; (with_reducible refine (CN.out _).mono ?_); rintro e w2 ⟨rfl, hb2⟩; have HO2 := Lib.hid (HO1.out.step (Bx.below hb2)); have HA2 := Lib.hid (below2 HA1.out hb2); clear hb2; obtain ⟨p0, p1, p2, p3, p4, p5, p6, p7⟩ := HO2.out.flat; have HO3 := Lib.hid (((HO2.out.set 0 (.int .i64 G) _ _ _ _ rfl).set 2 (.string BA) _ _ _ _ rfl).set 1 (.bool true) _ _ _ _ rfl); have HA3 := Lib.hid (below_set3 HA2.out (.int .i64 G) (.string BA) (.bool true)))
      | (go_at_call 22; (with_reducible refine (CL.out _ HA3.out).mono ?_); rintro e w4 ⟨rfl, hb4⟩; have HO4 := Lib.hid (HO3.out.step (Bx.below hb4)); have HA4 := Lib.hid (below2 HA3.out hb4); clear hb4)
      | (go_at_call 24; (with_reducible refine (SC.out _).mono ?_); rintro e w5 ⟨⟨sa, sc, rfl⟩, hb5⟩; have HO5 := Lib.hid (HO4.out.step (Bx.below hb5)); have HA5 := Lib.hid (below2 HA4.out hb5); clear hb5)
      | (go_at_call 25; (with_reducible refine (gen_no sa sc _).mono ?_); rintro e w6 ⟨rfl, rfl⟩; have HO6 := HO5; have HA6 := HA5; obtain ⟨q0, q1, q2, q3, q4, q5, q6, q7⟩ := HO6.out.flat)
      | (go_at_call 26; (with_reducible refine (CB.out _ (HPD.out.below HA6.out)).mono ?_); rintro e w7 ⟨rfl, HP7, HX7⟩; have HO7 := Lib.hid (HO6.out.step HX7.out); obtain ⟨r0, r1, r2, r3, r4, r5, r6, r7⟩ := HO7.out.flat; obtain ⟨t0, t1, t2, t3, t4, t5, t6, t7⟩ := HO7.out.flat2))
    all_goals
      go_wp2
      obtain ⟨f1, f2, f3⟩ := open_bad HO7.out (.int .i64 0) (.bool false) (.string ⟨#[]⟩) (.slice none 0 0) HP7.out _ rfl
      exact bodyPost_ret (ret_saved rfl _ _ w.heap.size _ _ _ _ _ _ rfl rfl rfl f1) rfl ⟨⟨fun h => absurd h h0, fun _ => rfl⟩, f3, f2⟩
set_option maxHeartbeats 8000000 in
theorem open_true_C1 (w : World) (g m k B : Nat) (d : DkIn) (h : PG w g m d k B) (hk : k < 800000) (S : SavedIn) (hR : Rest d S) (hgen : S.gen ≤ 1000000) (hbase : S.base.length ≤ 100000) (hrecs : S.recs.length ≤ 100000) (hh : S.has = true) (u : Nat) (hsc : scan (logB d) = (headL S.gen :: S.recs, u)) (hu : u < (logB d).length) : Calls Try.prog 9 #[.pointer (some ⟨g, 0, none⟩)] w fun e w' => OpenRes w' w.heap.size g S (openV d S.gen).1 e ∧ Hid (PD w' g m (openV d S.gen).2.files.length (openV d S.gen).2) ∧ Hid (Bx g m w w') := by
  obtain ⟨h1, h2, h3⟩ := hR.log
  have HPD := Lib.hid h.pd
  obtain ⟨hgl, hml⟩ := h.pd.lt
  have CD : Hid (∀ W, Below w.heap.size w W → Calls Try.prog 21 #[.pointer (some ⟨g, 0, none⟩)] W fun e w' => e = .returned (.bool false) ∧ W = w') := fun W hb => by
    have := dead_any W g m _ d (h.pd.below hb)
    rw [hR.live] at this
    exact this
  obtain ⟨LB, hLB⟩ : ∃ F : ByteArray, F.data.toList = logB d := ⟨⟨(logB d).toArray⟩, rfl⟩
  have lsz : LB.size ≤ 16777216 := by
    rw [← sz_list, hLB]
    exact Nat.le_trans log_len h.gr.lens.2
  obtain ⟨zl, hzl⟩ : ∃ z, Hid ((readV d logN).2 = z) := ⟨_, rfl⟩
  have CL : Hid (∀ W, Below w.heap.size w W → Calls Try.prog 22 #[.pointer (some ⟨g, 0, none⟩), .string ⟨#[108, 111, 103]⟩] W fun e w' => e = .returned (.tuple #[.string LB, .int .i64 zl]) ∧ Below W.heap.size W w') := fun W hb => by
    have : Calls Try.prog 22 #[.pointer (some ⟨g, 0, none⟩), .string ⟨#[108, 111, 103]⟩] W fun e w' => e = .returned (.tuple #[.string ⟨(readV d logN).1.toArray⟩, .int .i64 (readV d logN).2]) ∧ Below W.heap.size W w' := read_any W g m _ d (h.pd.below hb) ⟨#[108, 111, 103]⟩ (by decide)
    rw [read_log hR.live, ← hLB, hzl.out] at this
    exact this
  obtain ⟨BA, hBA⟩ : ∃ F : ByteArray, Hid (F.data.toList = S.base) := ⟨⟨S.base.toArray⟩, rfl⟩
  have hBA2 : Hid ((⟨S.base.toArray⟩ : ByteArray) = BA) := ba_of_list hBA.out.symm
  obtain ⟨G, hG⟩ : ∃ G : Int, Hid ((S.gen : Int) = G) := ⟨_, rfl⟩
  have G0 : 0 ≤ G := by have := hG.out; omega
  obtain ⟨F, hF⟩ : ∃ F : ByteArray, F.data.toList = fileB S.gen S.base := ⟨⟨(fileB S.gen S.base).toArray⟩, rfl⟩
  have CS : Hid (∀ W, Below w.heap.size w W → Calls Try.prog 22 #[.pointer (some ⟨g, 0, none⟩), .string ⟨#[115, 110, 97, 112]⟩] W fun e w' => e = .returned (.tuple #[.string F, .int .i64 0]) ∧ Below W.heap.size W w') := fun W hb => by
    have := read_any W g m _ d (h.pd.below hb) ⟨#[115, 110, 97, 112]⟩ (by decide)
    rw [show readV d (ByteArray.mk #[115, 110, 97, 112]).data.toList = _ from read_snap hR.live h1, hh, if_pos rfl, ← hF] at this
    exact this
  have CN : Hid (∀ W, Calls Try.prog 23 #[.string F] W fun e w' => e = .returned (.tuple #[.int .i64 G, .string BA, .bool true]) ∧ Below W.heap.size W w') := fun W => by
    have := snapshot_any S.gen (h1.yes hh) (by omega) BA (by rw [← sz_list, hBA.out]; exact hbase) F (by rw [hF, hBA.out]) W
    rw [hG.out] at this
    exact this
  have CU : Hid (∀ W, PD W g m d.files.length d → Calls Try.prog 27 #[.pointer (some ⟨g, 0, none⟩), .string ⟨#[108, 111, 103]⟩, .int .i64 (u : Int)] W fun e w' => e = .returned (.int .i64 (cutV d logN u).1) ∧ Hid (PD w' g m (cutV d logN u).2.files.length (cutV d logN u).2) ∧ Hid (Bx g m W w')) := fun W hp => cut_pg W g m k B d ⟨hp, h.gr⟩ (by omega) ⟨#[108, 111, 103]⟩ (by decide) (u : Int)
  obtain ⟨n, hn⟩ : ∃ n, Hid (S.recs.length + 1 = n) := ⟨_, rfl⟩
  obtain ⟨U, hU⟩ : ∃ U : Int, Hid ((u : Int) = U) := ⟨_, rfl⟩
  have hfr : fitL S.recs := by
    rcases h2.told with ⟨_, x, l, u2, e1, e2⟩ | ⟨_, e2⟩ | ⟨e1, _⟩
    · rw [hsc] at e2
      have e3 := congrArg (fun p : List (List UInt8) × Nat => p.1.head?) e2
      have e4 : headL S.gen = headL x := by simpa using e3
      have e5 : num8 S.gen = num8 x := by have := congrArg (List.drop 1) e4; exact this
      have := num8_inj (by omega) (by omega) e5
      omega
    · rw [hsc] at e2
      cases e2
    · exact e1
  have SC : Hid (∀ W, Calls Try.prog 24 #[.string LB] W fun e w' => (∃ g cap, e = .returned (.tuple #[.slice (some ⟨g, 0, none⟩) n cap, .int .i64 U]) ∧ Lie w' g (headL S.gen :: S.recs) cap ∧ W.heap.size ≤ g) ∧ Below W.heap.size W w') := fun W => by
    have := scan_yes LB (by omega) _ _ _ (by rw [hLB]; exact hsc) W
    rw [hn.out, hU.out] at this
    exact this
  have GE : Hid (∀ W sg sc, Lie W sg (headL S.gen :: S.recs) sc → Calls Try.prog 25 #[.slice (some ⟨sg, 0, none⟩) n sc] W fun e w' => e = .returned (.tuple #[.int .i64 G, .bool true]) ∧ Below W.heap.size W w') := fun W sg sc hL => by
    have := gen_yes S.gen (by omega) S.recs sg sc W hL (by omega)
    rw [hn.out, hG.out] at this
    exact this
  have n1 : 1 ≤ n := by have := hn.out; omega
  have n2 : n ≤ 100001 := by have := hn.out; omega
  have hus : decide (U < (LB.size : Int)) = true := decide_eq_true (by have := hU.out; rw [← hLB, sz_list] at hu; omega)
  have hus' : U < (LB.size : Int) := by have := hU.out; rw [← hLB, sz_list] at hu; omega
  have eo : openV d S.gen = cutV d logN u := by
    unfold openV
    rw [hsc]
    dsimp only
    rw [headL_gen, num_num8 S.gen (by omega), if_neg (by omega), if_pos hu]
  rw [hU.out] at CU eo
  rw [eo]
  generalize cutV d logN U = R at *
  obtain ⟨z, d1⟩ := R
  dsimp only at *
  clear h hR h1 h2 h3 hF hLB hsc eo
  by_cases h0 : z = 0
  · subst h0
    go_enter Try.func9, Try.ntmps9
    go_upto_region 25 with (first
      | (go_at_call 21; (with_reducible refine (CD.out _ (below_al (Below.refl _ _) _)).mono ?_); rintro e wd ⟨rfl, rfl⟩)
      | (go_at_call 22; (with_reducible refine (CS.out _ (below_al (below_al (Below.refl _ _) _) _)).mono ?_); rintro e w1 ⟨rfl, hb1⟩; have HO1 := Lib.hid ((OS.start w g m hgl hml).step (Bx.below hb1)); have HA1 := Lib.hid (below2 (below_al (below_al (Below.refl _ _) _) _) hb1); clear hb1)
      | (go_at_call 23; (with_reducible refine (CN.out _).mono ?_); rintro e w2 ⟨rfl, hb2⟩; have HO2 := Lib.hid (HO1.out.step (Bx.below hb2)); have HA2 := Lib.hid (below2 HA1.out hb2); clear hb2; obtain ⟨p0, p1, p2, p3, p4, p5, p6, p7⟩ := HO2.out.flat; have HO3 := Lib.hid (((HO2.out.set 0 (.int .i64 G) _ _ _ _ rfl).set 2 (.string BA) _ _ _ _ rfl).set 1 (.bool true) _ _ _ _ rfl); have HA3 := Lib.hid (below_set3 HA2.out (.int .i64 G) (.string BA) (.bool true)))
      | (go_at_call 22; (with_reducible refine (CL.out _ HA3.out).mono ?_); rintro e w4 ⟨rfl, hb4⟩; have HO4 := Lib.hid (HO3.out.step (Bx.below hb4)); have HA4 := Lib.hid (below2 HA3.out hb4); clear hb4)
      | (go_at_call 24; (with_reducible refine (SC.out _).mono ?_); rintro e w5 ⟨⟨sg, sc, rfl, hLie, hge⟩, hb5⟩; have HLI := Lib.hid hLie; have HGE := Lib.hid (Nat.lt_of_lt_of_le HO4.out.lt.2 hge); have HO5 := Lib.hid (HO4.out.step (Bx.below hb5)); have HA5 := Lib.hid (below2 HA4.out hb5); have hcap : n ≤ sc := (by have := hLie.fits; have := hn.out; simp at *; omega); have hmost := hLie.most; clear hb5 hLie hge; (by_cases hs1 : sc = 1 <;> (try subst hs1)))
      | (go_at_call 25; (with_reducible refine (GE.out _ _ _ HLI.out).mono ?_); rintro e w6 ⟨rfl, hb6⟩; have HO6 := Lib.hid (HO5.out.step (Bx.below hb6)); have HA6 := Lib.hid (below2 HA5.out hb6); have HL6 := Lib.hid (HLI.out.below hb6); clear hb6; obtain ⟨q0, q1, q2, q3, q4, q5, q6, q7⟩ := HO6.out.flat)
      | (go_at_call 27; (with_reducible refine (CU.out _ (HPD.out.below ?hc)).mono ?_); (case hc => exact HA6.out.setCell (Nat.le_succ _) _); rintro e w9 ⟨rfl, HP9, HX9⟩; have HO9 := Lib.hid ((HO6.out.set3 _).step HX9.out); obtain ⟨r0, r1, r2, r3, r4, r5, r6, r7⟩ := HO9.out.flat))
    · obtain ⟨t0, t1, t2, t3, t4, t5, t6, t7⟩ := HO9.out.flat2
      obtain ⟨l7a, l7b⟩ := HO9.out.lt
      go_region
      go_wp2
      have hnn : 0 = S.recs.length := by have := hn.out; omega
      obtain ⟨f1, f2, f3, f4, f5, f6⟩ := open_fin HO9.out (.int .i64 G) (.bool true) (.string BA) (.slice (some ⟨sg, 0, none⟩) 0 0) G 0 HP9.out _ rfl
      have hsl : sg < w9.heap.size := Nat.lt_of_lt_of_le (by have := HL6.out.lt; simpa using this) HX9.out.size
      have hsk : w9.heap[sg]? = w6.heap[sg]? := (HX9.out.block sg (by have := HL6.out.lt; simpa using this) (by have := HGE.out; omega) (by have := HGE.out; omega)).trans (heap_setCell_other _ ⟨w.heap.size + 1, 3, none⟩ sg _ (by have := HGE.out; show sg ≠ w.heap.size + 1; omega))
      refine bodyPost_ret (ret_saved rfl _ _ w.heap.size _ _ _ _ _ _ rfl rfl rfl f1) rfl ⟨⟨fun _ => ⟨w9.heap.size, some ⟨sg, 0, none⟩, 0, ?_, ?_, ?_, ?_, fun h => by cases h⟩, fun h => absurd rfl h⟩, f3, f2⟩
      · rw [savedVal, hBA2.out, hG.out, hh, ← hnn]; rfl
      · rw [← hnn, hG.out]; exact f4
      · exact Nat.le_trans (Nat.le_succ _) (Nat.le_of_lt l7b)
      · have hrf := recs_fin HL6.out HGE.out ((f5 sg hsl (by have := HGE.out; omega)).trans hsk) (by rw [f6]; omega)
        rw [if_pos rfl] at hrf
        exact hrf
    · obtain ⟨t0, t1, t2, t3, t4, t5, t6, t7⟩ := HO9.out.flat2
      obtain ⟨l7a, l7b⟩ := HO9.out.lt
      go_region
      go_wp2
      have hnn : n - 1 = S.recs.length := by have := hn.out; omega
      obtain ⟨f1, f2, f3, f4, f5, f6⟩ := open_fin HO9.out (.int .i64 G) (.bool true) (.string BA) (.slice (some ⟨sg, 1, none⟩) (n - 1) (sc - 1)) G ((n - 1 : Nat) : Int) HP9.out _ rfl
      have hsl : sg < w9.heap.size := Nat.lt_of_lt_of_le (by have := HL6.out.lt; simpa using this) HX9.out.size
      have hsk : w9.heap[sg]? = w6.heap[sg]? := (HX9.out.block sg (by have := HL6.out.lt; simpa using this) (by have := HGE.out; omega) (by have := HGE.out; omega)).trans (heap_setCell_other _ ⟨w.heap.size + 1, 3, none⟩ sg _ (by have := HGE.out; show sg ≠ w.heap.size + 1; omega))
      refine bodyPost_ret (ret_saved rfl _ _ w.heap.size _ _ _ _ _ _ rfl rfl rfl f1) rfl ⟨⟨fun _ => ⟨w9.heap.size, some ⟨sg, 1, none⟩, sc - 1, ?_, ?_, ?_, ?_, fun h => by cases h⟩, fun h => absurd rfl h⟩, f3, f2⟩
      · rw [savedVal, hBA2.out, hG.out, hh, ← hnn]; rfl
      · rw [← hnn, hG.out]; exact f4
      · exact Nat.le_trans (Nat.le_succ _) (Nat.le_of_lt l7b)
      · have hrf := recs_fin HL6.out HGE.out ((f5 sg hsl (by have := HGE.out; omega)).trans hsk) (by rw [f6]; omega)
        rw [if_neg hs1] at hrf
        exact hrf
  · have e0 : (z != 0) = true := bne_iff_ne.2 h0
    go_enter Try.func9, Try.ntmps9
    go_wp2_with (first
      | (go_at_call 21; (with_reducible refine (CD.out _ (below_al (Below.refl _ _) _)).mono ?_); rintro e wd ⟨rfl, rfl⟩)
      | (go_at_call 22; (with_reducible refine (CS.out _ (below_al (below_al (Below.refl _ _) _) _)).mono ?_); rintro e w1 ⟨rfl, hb1⟩; have HO1 := Lib.hid ((OS.start w g m hgl hml).step (Bx.below hb1)); have HA1 := Lib.hid (below2 (below_al (below_al (Below.refl _ _) _) _) hb1); clear hb1)
      | (go_at_call 23; (with_reducible refine (CN.out _).mono ?_); rintro e w2 ⟨rfl, hb2⟩; have HO2 := Lib.hid (HO1.out.step (Bx.below hb2)); have HA2 := Lib.hid (below2 HA1.out hb2); clear hb2; obtain ⟨p0, p1, p2, p3, p4, p5, p6, p7⟩ := HO2.out.flat; have HO3 := Lib.hid (((HO2.out.set 0 (.int .i64 G) _ _ _ _ rfl).set 2 (.string BA) _ _ _ _ rfl).set 1 (.bool true) _ _ _ _ rfl); have HA3 := Lib.hid (below_set3 HA2.out (.int .i64 G) (.string BA) (.bool true)))
      | (go_at_call 22; (with_reducible refine (CL.out _ HA3.out).mono ?_); rintro e w4 ⟨rfl, hb4⟩; have HO4 := Lib.hid (HO3.out.step (Bx.below hb4)); have HA4 := Lib.hid (below2 HA3.out hb4); clear hb4)
      | (go_at_call 24; (with_reducible refine (SC.out _).mono ?_); rintro e w5 ⟨⟨sg, sc, rfl, hLie, hge⟩, hb5⟩; have HLI := Lib.hid hLie; have HGE := Lib.hid (Nat.lt_of_lt_of_le HO4.out.lt.2 hge); have HO5 := Lib.hid (HO4.out.step (Bx.below hb5)); have HA5 := Lib.hid (below2 HA4.out hb5); have hcap : n ≤ sc := (by have := hLie.fits; have := hn.out; simp at *; omega); have hmost := hLie.most; clear hb5 hLie hge; (by_cases hs1 : sc = 1 <;> (try subst hs1)))
      | (go_at_call 25; (with_reducible refine (GE.out _ _ _ HLI.out).mono ?_); rintro e w6 ⟨rfl, hb6⟩; have HO6 := Lib.hid (HO5.out.step (Bx.below hb6)); have HA6 := Lib.hid (below2 HA5.out hb6); have HL6 := Lib.hid (HLI.out.below hb6); clear hb6; obtain ⟨q0, q1, q2, q3, q4, q5, q6, q7⟩ := HO6.out.flat)
      | (go_at_call 27; (with_reducible refine (CU.out _ (HPD.out.below ?hc)).mono ?_); (case hc => exact HA6.out.setCell (Nat.le_succ _) _); rintro e w9 ⟨rfl, HP9, HX9⟩; have HO9 := Lib.hid ((HO6.out.set3 _).step HX9.out); obtain ⟨r0, r1, r2, r3, r4, r5, r6, r7⟩ := HO9.out.flat; obtain ⟨t0, t1, t2, t3, t4, t5, t6, t7⟩ := HO9.out.flat2))
    all_goals
      go_wp2
      obtain ⟨f1, f2, f3⟩ := open_bad HO9.out (.int .i64 0) (.bool false) (.string ⟨#[]⟩) (.slice none 0 0) HP9.out _ rfl
      exact bodyPost_ret (ret_saved rfl _ _ w.heap.size _ _ _ _ _ _ rfl rfl rfl f1) rfl ⟨⟨fun h => absurd h h0, fun _ => rfl⟩, f3, f2⟩
set_option maxHeartbeats 8000000 in
theorem open_true_C2 (w : World) (g m k B : Nat) (d : DkIn) (h : PG w g m d k B) (hk : k < 800000) (S : SavedIn) (hR : Rest d S) (hgen : S.gen ≤ 1000000) (hbase : S.base.length ≤ 100000) (hrecs : S.recs.length ≤ 100000) (hh : S.has = true) (u : Nat) (hsc : scan (logB d) = (headL S.gen :: S.recs, u)) (hu : ¬ u < (logB d).length) : Calls Try.prog 9 #[.pointer (some ⟨g, 0, none⟩)] w fun e w' => OpenRes w' w.heap.size g S (openV d S.gen).1 e ∧ Hid (PD w' g m (openV d S.gen).2.files.length (openV d S.gen).2) ∧ Hid (Bx g m w w') := by
  obtain ⟨h1, h2, h3⟩ := hR.log
  have HPD := Lib.hid h.pd
  obtain ⟨hgl, hml⟩ := h.pd.lt
  have CD : Hid (∀ W, Below w.heap.size w W → Calls Try.prog 21 #[.pointer (some ⟨g, 0, none⟩)] W fun e w' => e = .returned (.bool false) ∧ W = w') := fun W hb => by
    have := dead_any W g m _ d (h.pd.below hb)
    rw [hR.live] at this
    exact this
  obtain ⟨LB, hLB⟩ : ∃ F : ByteArray, F.data.toList = logB d := ⟨⟨(logB d).toArray⟩, rfl⟩
  have lsz : LB.size ≤ 16777216 := by
    rw [← sz_list, hLB]
    exact Nat.le_trans log_len h.gr.lens.2
  obtain ⟨zl, hzl⟩ : ∃ z, Hid ((readV d logN).2 = z) := ⟨_, rfl⟩
  have CL : Hid (∀ W, Below w.heap.size w W → Calls Try.prog 22 #[.pointer (some ⟨g, 0, none⟩), .string ⟨#[108, 111, 103]⟩] W fun e w' => e = .returned (.tuple #[.string LB, .int .i64 zl]) ∧ Below W.heap.size W w') := fun W hb => by
    have : Calls Try.prog 22 #[.pointer (some ⟨g, 0, none⟩), .string ⟨#[108, 111, 103]⟩] W fun e w' => e = .returned (.tuple #[.string ⟨(readV d logN).1.toArray⟩, .int .i64 (readV d logN).2]) ∧ Below W.heap.size W w' := read_any W g m _ d (h.pd.below hb) ⟨#[108, 111, 103]⟩ (by decide)
    rw [read_log hR.live, ← hLB, hzl.out] at this
    exact this
  obtain ⟨BA, hBA⟩ : ∃ F : ByteArray, Hid (F.data.toList = S.base) := ⟨⟨S.base.toArray⟩, rfl⟩
  have hBA2 : Hid ((⟨S.base.toArray⟩ : ByteArray) = BA) := ba_of_list hBA.out.symm
  obtain ⟨G, hG⟩ : ∃ G : Int, Hid ((S.gen : Int) = G) := ⟨_, rfl⟩
  have G0 : 0 ≤ G := by have := hG.out; omega
  obtain ⟨F, hF⟩ : ∃ F : ByteArray, F.data.toList = fileB S.gen S.base := ⟨⟨(fileB S.gen S.base).toArray⟩, rfl⟩
  have CS : Hid (∀ W, Below w.heap.size w W → Calls Try.prog 22 #[.pointer (some ⟨g, 0, none⟩), .string ⟨#[115, 110, 97, 112]⟩] W fun e w' => e = .returned (.tuple #[.string F, .int .i64 0]) ∧ Below W.heap.size W w') := fun W hb => by
    have := read_any W g m _ d (h.pd.below hb) ⟨#[115, 110, 97, 112]⟩ (by decide)
    rw [show readV d (ByteArray.mk #[115, 110, 97, 112]).data.toList = _ from read_snap hR.live h1, hh, if_pos rfl, ← hF] at this
    exact this
  have CN : Hid (∀ W, Calls Try.prog 23 #[.string F] W fun e w' => e = .returned (.tuple #[.int .i64 G, .string BA, .bool true]) ∧ Below W.heap.size W w') := fun W => by
    have := snapshot_any S.gen (h1.yes hh) (by omega) BA (by rw [← sz_list, hBA.out]; exact hbase) F (by rw [hF, hBA.out]) W
    rw [hG.out] at this
    exact this
  have CU : Hid (∀ W, PD W g m d.files.length d → Calls Try.prog 27 #[.pointer (some ⟨g, 0, none⟩), .string ⟨#[108, 111, 103]⟩, .int .i64 (u : Int)] W fun e w' => e = .returned (.int .i64 (cutV d logN u).1) ∧ Hid (PD w' g m (cutV d logN u).2.files.length (cutV d logN u).2) ∧ Hid (Bx g m W w')) := fun W hp => cut_pg W g m k B d ⟨hp, h.gr⟩ (by omega) ⟨#[108, 111, 103]⟩ (by decide) (u : Int)
  obtain ⟨n, hn⟩ : ∃ n, Hid (S.recs.length + 1 = n) := ⟨_, rfl⟩
  obtain ⟨U, hU⟩ : ∃ U : Int, Hid ((u : Int) = U) := ⟨_, rfl⟩
  have hfr : fitL S.recs := by
    rcases h2.told with ⟨_, x, l, u2, e1, e2⟩ | ⟨_, e2⟩ | ⟨e1, _⟩
    · rw [hsc] at e2
      have e3 := congrArg (fun p : List (List UInt8) × Nat => p.1.head?) e2
      have e4 : headL S.gen = headL x := by simpa using e3
      have e5 : num8 S.gen = num8 x := by have := congrArg (List.drop 1) e4; exact this
      have := num8_inj (by omega) (by omega) e5
      omega
    · rw [hsc] at e2
      cases e2
    · exact e1
  have SC : Hid (∀ W, Calls Try.prog 24 #[.string LB] W fun e w' => (∃ g cap, e = .returned (.tuple #[.slice (some ⟨g, 0, none⟩) n cap, .int .i64 U]) ∧ Lie w' g (headL S.gen :: S.recs) cap ∧ W.heap.size ≤ g) ∧ Below W.heap.size W w') := fun W => by
    have := scan_yes LB (by omega) _ _ _ (by rw [hLB]; exact hsc) W
    rw [hn.out, hU.out] at this
    exact this
  have GE : Hid (∀ W sg sc, Lie W sg (headL S.gen :: S.recs) sc → Calls Try.prog 25 #[.slice (some ⟨sg, 0, none⟩) n sc] W fun e w' => e = .returned (.tuple #[.int .i64 G, .bool true]) ∧ Below W.heap.size W w') := fun W sg sc hL => by
    have := gen_yes S.gen (by omega) S.recs sg sc W hL (by omega)
    rw [hn.out, hG.out] at this
    exact this
  have n1 : 1 ≤ n := by have := hn.out; omega
  have n2 : n ≤ 100001 := by have := hn.out; omega
  have hus : decide (U < (LB.size : Int)) = false := decide_eq_false (by have := hU.out; rw [← hLB, sz_list] at hu; omega)
  have hus' : ¬ U < (LB.size : Int) := by have := hU.out; rw [← hLB, sz_list] at hu; omega
  have eo : openV d S.gen = (0, d) := by
    unfold openV
    rw [hsc]
    dsimp only
    rw [headL_gen, num_num8 S.gen (by omega), if_neg (by omega), if_neg hu]
  rw [hU.out] at CU
  rw [eo]
  clear h hR h1 h2 h3 hF hLB hsc eo
  go_enter Try.func9, Try.ntmps9
  go_upto_region 25 with (first
    | (go_at_call 21; (with_reducible refine (CD.out _ (below_al (Below.refl _ _) _)).mono ?_); rintro e wd ⟨rfl, rfl⟩)
    | (go_at_call 22; (with_reducible refine (CS.out _ (below_al (below_al (Below.refl _ _) _) _)).mono ?_); rintro e w1 ⟨rfl, hb1⟩; have HO1 := Lib.hid ((OS.start w g m hgl hml).step (Bx.below hb1)); have HA1 := Lib.hid (below2 (below_al (below_al (Below.refl _ _) _) _) hb1); clear hb1)
    | (go_at_call 23; (with_reducible refine (CN.out _).mono ?_); rintro e w2 ⟨rfl, hb2⟩; have HO2 := Lib.hid (HO1.out.step (Bx.below hb2)); have HA2 := Lib.hid (below2 HA1.out hb2); clear hb2; obtain ⟨p0, p1, p2, p3, p4, p5, p6, p7⟩ := HO2.out.flat; have HO3 := Lib.hid (((HO2.out.set 0 (.int .i64 G) _ _ _ _ rfl).set 2 (.string BA) _ _ _ _ rfl).set 1 (.bool true) _ _ _ _ rfl); have HA3 := Lib.hid (below_set3 HA2.out (.int .i64 G) (.string BA) (.bool true)))
    | (go_at_call 22; (with_reducible refine (CL.out _ HA3.out).mono ?_); rintro e w4 ⟨rfl, hb4⟩; have HO4 := Lib.hid (HO3.out.step (Bx.below hb4)); have HA4 := Lib.hid (below2 HA3.out hb4); clear hb4)
    | (go_at_call 24; (with_reducible refine (SC.out _).mono ?_); rintro e w5 ⟨⟨sg, sc, rfl, hLie, hge⟩, hb5⟩; have HLI := Lib.hid hLie; have HGE := Lib.hid (Nat.lt_of_lt_of_le HO4.out.lt.2 hge); have HO5 := Lib.hid (HO4.out.step (Bx.below hb5)); have HA5 := Lib.hid (below2 HA4.out hb5); have hcap : n ≤ sc := (by have := hLie.fits; have := hn.out; simp at *; omega); have hmost := hLie.most; clear hb5 hLie hge; (by_cases hs1 : sc = 1 <;> (try subst hs1)))
    | (go_at_call 25; (with_reducible refine (GE.out _ _ _ HLI.out).mono ?_); rintro e w6 ⟨rfl, hb6⟩; have HO6 := Lib.hid (HO5.out.step (Bx.below hb6)); have HA6 := Lib.hid (below2 HA5.out hb6); have HL6 := Lib.hid (HLI.out.below hb6); clear hb6; obtain ⟨q0, q1, q2, q3, q4, q5, q6, q7⟩ := HO6.out.flat))
  · have HO8 := Lib.hid (HO6.out.set3 (.slice (some ⟨sg, 0, none⟩) 0 0))
    have HP8 := Lib.hid (HPD.out.below (below_setR HA6.out (.slice (some ⟨sg, 0, none⟩) 0 0)))
    have HK8 : Hid ((w6.setCell ⟨w.heap.size + 1, 3, none⟩ (.slice (some ⟨sg, 0, none⟩) 0 0)).heap[sg]? = w6.heap[sg]? ∧ sg < (w6.setCell ⟨w.heap.size + 1, 3, none⟩ (.slice (some ⟨sg, 0, none⟩) 0 0)).heap.size) := ⟨heap_setCell_other _ ⟨w.heap.size + 1, 3, none⟩ sg _ (by have := HGE.out; show sg ≠ w.heap.size + 1; omega), by have := HL6.out.lt; simpa using this⟩
    generalize w6.setCell ⟨w.heap.size + 1, 3, none⟩ (.slice (some ⟨sg, 0, none⟩) 0 0) = w8 at *
    obtain ⟨r0, r1, r2, r3, r4, r5, r6, r7⟩ := HO8.out.flat
    obtain ⟨t0, t1, t2, t3, t4, t5, t6, t7⟩ := HO8.out.flat2
    obtain ⟨l7a, l7b⟩ := HO8.out.lt
    go_region
    go_wp2
    have hnn : 0 = S.recs.length := by have := hn.out; omega
    obtain ⟨f1, f2, f3, f4, f5, f6⟩ := open_fin HO8.out (.int .i64 G) (.bool true) (.string BA) (.slice (some ⟨sg, 0, none⟩) 0 0) G 0 HP8.out _ rfl
    obtain ⟨hsk, hsl⟩ := HK8.out
    refine bodyPost_ret (ret_saved rfl _ _ w.heap.size _ _ _ _ _ _ rfl rfl rfl f1) rfl ⟨⟨fun _ => ⟨w8.heap.size, some ⟨sg, 0, none⟩, 0, ?_, ?_, ?_, ?_, fun h => by cases h⟩, fun h => absurd rfl h⟩, f3, f2⟩
    · rw [savedVal, hBA2.out, hG.out, hh, ← hnn]; rfl
    · rw [← hnn, hG.out]; exact f4
    · exact Nat.le_trans (Nat.le_succ _) (Nat.le_of_lt l7b)
    · have hrf := recs_fin HL6.out HGE.out ((f5 sg hsl (by have := HGE.out; omega)).trans hsk) (by rw [f6]; omega)
      rw [if_pos rfl] at hrf
      exact hrf
  · have HO8 := Lib.hid (HO6.out.set3 (.slice (some ⟨sg, 1, none⟩) (n - 1) (sc - 1)))
    have HP8 := Lib.hid (HPD.out.below (below_setR HA6.out (.slice (some ⟨sg, 1, none⟩) (n - 1) (sc - 1))))
    have HK8 : Hid ((w6.setCell ⟨w.heap.size + 1, 3, none⟩ (.slice (some ⟨sg, 1, none⟩) (n - 1) (sc - 1))).heap[sg]? = w6.heap[sg]? ∧ sg < (w6.setCell ⟨w.heap.size + 1, 3, none⟩ (.slice (some ⟨sg, 1, none⟩) (n - 1) (sc - 1))).heap.size) := ⟨heap_setCell_other _ ⟨w.heap.size + 1, 3, none⟩ sg _ (by have := HGE.out; show sg ≠ w.heap.size + 1; omega), by have := HL6.out.lt; simpa using this⟩
    generalize w6.setCell ⟨w.heap.size + 1, 3, none⟩ (.slice (some ⟨sg, 1, none⟩) (n - 1) (sc - 1)) = w8 at *
    obtain ⟨r0, r1, r2, r3, r4, r5, r6, r7⟩ := HO8.out.flat
    obtain ⟨t0, t1, t2, t3, t4, t5, t6, t7⟩ := HO8.out.flat2
    obtain ⟨l7a, l7b⟩ := HO8.out.lt
    go_region
    go_wp2
    have hnn : n - 1 = S.recs.length := by have := hn.out; omega
    obtain ⟨f1, f2, f3, f4, f5, f6⟩ := open_fin HO8.out (.int .i64 G) (.bool true) (.string BA) (.slice (some ⟨sg, 1, none⟩) (n - 1) (sc - 1)) G ((n - 1 : Nat) : Int) HP8.out _ rfl
    obtain ⟨hsk, hsl⟩ := HK8.out
    refine bodyPost_ret (ret_saved rfl _ _ w.heap.size _ _ _ _ _ _ rfl rfl rfl f1) rfl ⟨⟨fun _ => ⟨w8.heap.size, some ⟨sg, 1, none⟩, sc - 1, ?_, ?_, ?_, ?_, fun h => by cases h⟩, fun h => absurd rfl h⟩, f3, f2⟩
    · rw [savedVal, hBA2.out, hG.out, hh, ← hnn]; rfl
    · rw [← hnn, hG.out]; exact f4
    · exact Nat.le_trans (Nat.le_succ _) (Nat.le_of_lt l7b)
    · have hrf := recs_fin HL6.out HGE.out ((f5 sg hsl (by have := HGE.out; omega)).trans hsk) (by rw [f6]; omega)
      rw [if_neg hs1] at hrf
      exact hrf
set_option maxHeartbeats 8000000 in
theorem open_false_B (w : World) (g m k B : Nat) (d : DkIn) (h : PG w g m d k B) (hk : k < 800000) (S : SavedIn) (hR : Rest d S) (hgen : S.gen ≤ 1000000) (hbase : S.base.length ≤ 100000) (hrecs : S.recs.length ≤ 100000) (hh : S.has = false) (hsc : scan (logB d) = ([], 0)) (hrn : S.recs = []) : Calls Try.prog 9 #[.pointer (some ⟨g, 0, none⟩)] w fun e w' => OpenRes w' w.heap.size g S (openV d S.gen).1 e ∧ Hid (PD w' g m (openV d S.gen).2.files.length (openV d S.gen).2) ∧ Hid (Bx g m w w') := by
  obtain ⟨h1, h2, h3⟩ := hR.log
  have HPD := Lib.hid h.pd
  obtain ⟨hgl, hml⟩ := h.pd.lt
  have CD : Hid (∀ W, Below w.heap.size w W → Calls Try.prog 21 #[.pointer (some ⟨g, 0, none⟩)] W fun e w' => e = .returned (.bool false) ∧ W = w') := fun W hb => by
    have := dead_any W g m _ d (h.pd.below hb)
    rw [hR.live] at this
    exact this
  obtain ⟨LB, hLB⟩ : ∃ F : ByteArray, F.data.toList = logB d := ⟨⟨(logB d).toArray⟩, rfl⟩
  have lsz : LB.size ≤ 16777216 := by
    rw [← sz_list, hLB]
    exact Nat.le_trans log_len h.gr.lens.2
  obtain ⟨zl, hzl⟩ : ∃ z, Hid ((readV d logN).2 = z) := ⟨_, rfl⟩
  have CL : Hid (∀ W, Below w.heap.size w W → Calls Try.prog 22 #[.pointer (some ⟨g, 0, none⟩), .string ⟨#[108, 111, 103]⟩] W fun e w' => e = .returned (.tuple #[.string LB, .int .i64 zl]) ∧ Below W.heap.size W w') := fun W hb => by
    have : Calls Try.prog 22 #[.pointer (some ⟨g, 0, none⟩), .string ⟨#[108, 111, 103]⟩] W fun e w' => e = .returned (.tuple #[.string ⟨(readV d logN).1.toArray⟩, .int .i64 (readV d logN).2]) ∧ Below W.heap.size W w' := read_any W g m _ d (h.pd.below hb) ⟨#[108, 111, 103]⟩ (by decide)
    rw [read_log hR.live, ← hLB, hzl.out] at this
    exact this
  obtain ⟨BA, hBA⟩ : ∃ F : ByteArray, Hid (F.data.toList = S.base) := ⟨⟨S.base.toArray⟩, rfl⟩
  have hBA2 : Hid ((⟨S.base.toArray⟩ : ByteArray) = BA) := ba_of_list hBA.out.symm
  obtain ⟨G, hG⟩ : ∃ G : Int, Hid ((S.gen : Int) = G) := ⟨_, rfl⟩
  have G0 : 0 ≤ G := by have := hG.out; omega
  have CS : Hid (∀ W, Below w.heap.size w W → Calls Try.prog 22 #[.pointer (some ⟨g, 0, none⟩), .string ⟨#[115, 110, 97, 112]⟩] W fun e w' => e = .returned (.tuple #[.string ⟨#[]⟩, .int .i64 3]) ∧ Below W.heap.size W w') := fun W hb => by
    have := read_any W g m _ d (h.pd.below hb) ⟨#[115, 110, 97, 112]⟩ (by decide)
    rw [show readV d (ByteArray.mk #[115, 110, 97, 112]).data.toList = _ from read_snap hR.live h1, hh, if_neg (by decide)] at this
    exact this
  have g0 : G = 0 := by rw [← hG.out, (h1.no hh).1]; rfl
  have b0 : BA = ⟨#[]⟩ := ba_of_list (by rw [hBA.out, (h1.no hh).2])
  subst g0
  subst b0
  have dg1 : decide (0 < -1) = false := decide_eq_false (by omega)
  have dl1 : decide (-1 < 0) = true := decide_eq_true (by omega)
  have dg1' : ¬ 0 < -1 := of_decide_eq_false dg1
  have dl1' : -1 < 0 := of_decide_eq_true dl1
  have SC : Hid (∀ W, Calls Try.prog 24 #[.string LB] W fun e w' => (∃ a cap, e = .returned (.tuple #[.slice a 0 cap, .int .i64 0])) ∧ Below W.heap.size W w') := fun W => scan_no LB (by omega) 0 (by rw [hLB]; exact hsc) W
  have eo : openV d S.gen = beginsV d S.gen := by
    unfold openV
    rw [hsc]
  have CB : Hid (∀ W, PD W g m d.files.length d → Calls Try.prog 26 #[.pointer (some ⟨g, 0, none⟩), .int .i64 0] W fun e w' => e = .returned (.int .i64 (beginsV d S.gen).1) ∧ Hid (PD w' g m (beginsV d S.gen).2.files.length (beginsV d S.gen).2) ∧ Hid (Bx g m W w')) := fun W hp => by
    have := begins_pg W g m k B d ⟨hp, h.gr⟩ (by omega) S.gen (by omega)
    rw [hG.out] at this
    exact this
  rw [eo]
  generalize beginsV d S.gen = R at *
  obtain ⟨z, d1⟩ := R
  dsimp only at *
  clear h hR h1 h2 h3 hLB hsc eo
  by_cases h0 : z = 0
  · subst h0
    go_enter Try.func9, Try.ntmps9
    go_upto_region 25 with (first
      | (go_at_call 21; (with_reducible refine (CD.out _ (below_al (Below.refl _ _) _)).mono ?_); rintro e wd ⟨rfl, rfl⟩)
      | (go_at_call 22; (with_reducible refine (CS.out _ (below_al (below_al (Below.refl _ _) _) _)).mono ?_); rintro e w1 ⟨rfl, hb1⟩; have HO1 := Lib.hid ((OS.start w g m hgl hml).step (Bx.below hb1)); have HA1 := Lib.hid (below2 (below_al (below_al (Below.refl _ _) _) _) hb1); clear hb1; obtain ⟨p0, p1, p2, p3, p4, p5, p6, p7⟩ := HO1.out.flat)
      | (go_at_call 22; (with_reducible refine (CL.out _ HA1.out).mono ?_); rintro e w4 ⟨rfl, hb4⟩; have HO4 := Lib.hid (HO1.out.step (Bx.below hb4)); have HA4 := Lib.hid (below2 HA1.out hb4); clear hb4)
      | (go_at_call 24; (with_reducible refine (SC.out _).mono ?_); rintro e w5 ⟨⟨sa, sc, rfl⟩, hb5⟩; have HO5 := Lib.hid (HO4.out.step (Bx.below hb5)); have HA5 := Lib.hid (below2 HA4.out hb5); clear hb5)
      | (go_at_call 25; (with_reducible refine (gen_no sa sc _).mono ?_); rintro e w6 ⟨rfl, rfl⟩; have HO6 := HO5; have HA6 := HA5; obtain ⟨q0, q1, q2, q3, q4, q5, q6, q7⟩ := HO6.out.flat)
      | (go_at_call 26; (with_reducible refine (CB.out _ (HPD.out.below HA6.out)).mono ?_); rintro e w7 ⟨rfl, HP7, HX7⟩; have HO7 := Lib.hid (HO6.out.step HX7.out); obtain ⟨r0, r1, r2, r3, r4, r5, r6, r7⟩ := HO7.out.flat))
    all_goals
      obtain ⟨t0, t1, t2, t3, t4, t5, t6, t7⟩ := HO7.out.flat2
      obtain ⟨l7a, l7b⟩ := HO7.out.lt
      go_region
      go_wp2
      obtain ⟨f1, f2, f3, f4, f5, f6⟩ := open_fin HO7.out (.int .i64 0) (.bool false) (.string ⟨#[]⟩) (.slice none 0 0) 0 0 HP7.out _ rfl
      refine bodyPost_ret (ret_saved rfl _ _ w.heap.size _ _ _ _ _ _ rfl rfl rfl f1) rfl ⟨⟨fun _ => ⟨w7.heap.size, none, 0, ?_, ?_, ?_, ?_, fun _ => rfl⟩, fun h => absurd rfl h⟩, f3, f2⟩
      · rw [savedVal, hrn, hBA2.out, hG.out, hh]; rfl
      · rw [hrn, hG.out]; exact f4
      · exact Nat.le_trans (Nat.le_succ _) (Nat.le_of_lt l7b)
      · rw [hrn]; exact ⟨fun i hi => absurd hi (Nat.not_lt_zero i), fun x hx => by cases hx⟩
  · have e0 : (z != 0) = true := bne_iff_ne.2 h0
    go_enter Try.func9, Try.ntmps9
    go_wp2_with (first
      | (go_at_call 21; (with_reducible refine (CD.out _ (below_al (Below.refl _ _) _)).mono ?_); rintro e wd ⟨rfl, rfl⟩)
      | (go_at_call 22; (with_reducible refine (CS.out _ (below_al (below_al (Below.refl _ _) _) _)).mono ?_); rintro e w1 ⟨rfl, hb1⟩; have HO1 := Lib.hid ((OS.start w g m hgl hml).step (Bx.below hb1)); have HA1 := Lib.hid (below2 (below_al (below_al (Below.refl _ _) _) _) hb1); clear hb1; obtain ⟨p0, p1, p2, p3, p4, p5, p6, p7⟩ := HO1.out.flat)
      | (go_at_call 22; (with_reducible refine (CL.out _ HA1.out).mono ?_); rintro e w4 ⟨rfl, hb4⟩; have HO4 := Lib.hid (HO1.out.step (Bx.below hb4)); have HA4 := Lib.hid (below2 HA1.out hb4); clear hb4)
      | (go_at_call 24; (with_reducible refine (SC.out _).mono ?_); rintro e w5 ⟨⟨sa, sc, rfl⟩, hb5⟩; have HO5 := Lib.hid (HO4.out.step (Bx.below hb5)); have HA5 := Lib.hid (below2 HA4.out hb5); clear hb5)
      | (go_at_call 25; (with_reducible refine (gen_no sa sc _).mono ?_); rintro e w6 ⟨rfl, rfl⟩; have HO6 := HO5; have HA6 := HA5; obtain ⟨q0, q1, q2, q3, q4, q5, q6, q7⟩ := HO6.out.flat)
      | (go_at_call 26; (with_reducible refine (CB.out _ (HPD.out.below HA6.out)).mono ?_); rintro e w7 ⟨rfl, HP7, HX7⟩; have HO7 := Lib.hid (HO6.out.step HX7.out); obtain ⟨r0, r1, r2, r3, r4, r5, r6, r7⟩ := HO7.out.flat; obtain ⟨t0, t1, t2, t3, t4, t5, t6, t7⟩ := HO7.out.flat2))
    all_goals
      go_wp2
      obtain ⟨f1, f2, f3⟩ := open_bad HO7.out (.int .i64 0) (.bool false) (.string ⟨#[]⟩) (.slice none 0 0) HP7.out _ rfl
      exact bodyPost_ret (ret_saved rfl _ _ w.heap.size _ _ _ _ _ _ rfl rfl rfl f1) rfl ⟨⟨fun h => absurd h h0, fun _ => rfl⟩, f3, f2⟩
set_option maxHeartbeats 8000000 in
theorem open_false_C1 (w : World) (g m k B : Nat) (d : DkIn) (h : PG w g m d k B) (hk : k < 800000) (S : SavedIn) (hR : Rest d S) (hgen : S.gen ≤ 1000000) (hbase : S.base.length ≤ 100000) (hrecs : S.recs.length ≤ 100000) (hh : S.has = false) (u : Nat) (hsc : scan (logB d) = (headL S.gen :: S.recs, u)) (hu : u < (logB d).length) : Calls Try.prog 9 #[.pointer (some ⟨g, 0, none⟩)] w fun e w' => OpenRes w' w.heap.size g S (openV d S.gen).1 e ∧ Hid (PD w' g m (openV d S.gen).2.files.length (openV d S.gen).2) ∧ Hid (Bx g m w w') := by
  obtain ⟨h1, h2, h3⟩ := hR.log
  have HPD := Lib.hid h.pd
  obtain ⟨hgl, hml⟩ := h.pd.lt
  have CD : Hid (∀ W, Below w.heap.size w W → Calls Try.prog 21 #[.pointer (some ⟨g, 0, none⟩)] W fun e w' => e = .returned (.bool false) ∧ W = w') := fun W hb => by
    have := dead_any W g m _ d (h.pd.below hb)
    rw [hR.live] at this
    exact this
  obtain ⟨LB, hLB⟩ : ∃ F : ByteArray, F.data.toList = logB d := ⟨⟨(logB d).toArray⟩, rfl⟩
  have lsz : LB.size ≤ 16777216 := by
    rw [← sz_list, hLB]
    exact Nat.le_trans log_len h.gr.lens.2
  obtain ⟨zl, hzl⟩ : ∃ z, Hid ((readV d logN).2 = z) := ⟨_, rfl⟩
  have CL : Hid (∀ W, Below w.heap.size w W → Calls Try.prog 22 #[.pointer (some ⟨g, 0, none⟩), .string ⟨#[108, 111, 103]⟩] W fun e w' => e = .returned (.tuple #[.string LB, .int .i64 zl]) ∧ Below W.heap.size W w') := fun W hb => by
    have : Calls Try.prog 22 #[.pointer (some ⟨g, 0, none⟩), .string ⟨#[108, 111, 103]⟩] W fun e w' => e = .returned (.tuple #[.string ⟨(readV d logN).1.toArray⟩, .int .i64 (readV d logN).2]) ∧ Below W.heap.size W w' := read_any W g m _ d (h.pd.below hb) ⟨#[108, 111, 103]⟩ (by decide)
    rw [read_log hR.live, ← hLB, hzl.out] at this
    exact this
  obtain ⟨BA, hBA⟩ : ∃ F : ByteArray, Hid (F.data.toList = S.base) := ⟨⟨S.base.toArray⟩, rfl⟩
  have hBA2 : Hid ((⟨S.base.toArray⟩ : ByteArray) = BA) := ba_of_list hBA.out.symm
  obtain ⟨G, hG⟩ : ∃ G : Int, Hid ((S.gen : Int) = G) := ⟨_, rfl⟩
  have G0 : 0 ≤ G := by have := hG.out; omega
  have CS : Hid (∀ W, Below w.heap.size w W → Calls Try.prog 22 #[.pointer (some ⟨g, 0, none⟩), .string ⟨#[115, 110, 97, 112]⟩] W fun e w' => e = .returned (.tuple #[.string ⟨#[]⟩, .int .i64 3]) ∧ Below W.heap.size W w') := fun W hb => by
    have := read_any W g m _ d (h.pd.below hb) ⟨#[115, 110, 97, 112]⟩ (by decide)
    rw [show readV d (ByteArray.mk #[115, 110, 97, 112]).data.toList = _ from read_snap hR.live h1, hh, if_neg (by decide)] at this
    exact this
  have g0 : G = 0 := by rw [← hG.out, (h1.no hh).1]; rfl
  have b0 : BA = ⟨#[]⟩ := ba_of_list (by rw [hBA.out, (h1.no hh).2])
  subst g0
  subst b0
  have CU : Hid (∀ W, PD W g m d.files.length d → Calls Try.prog 27 #[.pointer (some ⟨g, 0, none⟩), .string ⟨#[108, 111, 103]⟩, .int .i64 (u : Int)] W fun e w' => e = .returned (.int .i64 (cutV d logN u).1) ∧ Hid (PD w' g m (cutV d logN u).2.files.length (cutV d logN u).2) ∧ Hid (Bx g m W w')) := fun W hp => cut_pg W g m k B d ⟨hp, h.gr⟩ (by omega) ⟨#[108, 111, 103]⟩ (by decide) (u : Int)
  obtain ⟨n, hn⟩ : ∃ n, Hid (S.recs.length + 1 = n) := ⟨_, rfl⟩
  obtain ⟨U, hU⟩ : ∃ U : Int, Hid ((u : Int) = U) := ⟨_, rfl⟩
  have hfr : fitL S.recs := by
    rcases h2.told with ⟨_, x, l, u2, e1, e2⟩ | ⟨_, e2⟩ | ⟨e1, _⟩
    · rw [hsc] at e2
      have e3 := congrArg (fun p : List (List UInt8) × Nat => p.1.head?) e2
      have e4 : headL S.gen = headL x := by simpa using e3
      have e5 : num8 S.gen = num8 x := by have := congrArg (List.drop 1) e4; exact this
      have := num8_inj (by omega) (by omega) e5
      omega
    · rw [hsc] at e2
      cases e2
    · exact e1
  have SC : Hid (∀ W, Calls Try.prog 24 #[.string LB] W fun e w' => (∃ g cap, e = .returned (.tuple #[.slice (some ⟨g, 0, none⟩) n cap, .int .i64 U]) ∧ Lie w' g (headL S.gen :: S.recs) cap ∧ W.heap.size ≤ g) ∧ Below W.heap.size W w') := fun W => by
    have := scan_yes LB (by omega) _ _ _ (by rw [hLB]; exact hsc) W
    rw [hn.out, hU.out] at this
    exact this
  have GE : Hid (∀ W sg sc, Lie W sg (headL S.gen :: S.recs) sc → Calls Try.prog 25 #[.slice (some ⟨sg, 0, none⟩) n sc] W fun e w' => e = .returned (.tuple #[.int .i64 0, .bool true]) ∧ Below W.heap.size W w') := fun W sg sc hL => by
    have := gen_yes S.gen (by omega) S.recs sg sc W hL (by omega)
    rw [hn.out, hG.out] at this
    exact this
  have n1 : 1 ≤ n := by have := hn.out; omega
  have n2 : n ≤ 100001 := by have := hn.out; omega
  have hus : decide (U < (LB.size : Int)) = true := decide_eq_true (by have := hU.out; rw [← hLB, sz_list] at hu; omega)
  have hus' : U < (LB.size : Int) := by have := hU.out; rw [← hLB, sz_list] at hu; omega
  have eo : openV d S.gen = cutV d logN u := by
    unfold openV
    rw [hsc]
    dsimp only
    rw [headL_gen, num_num8 S.gen (by omega), if_neg (by omega), if_pos hu]
  rw [hU.out] at CU eo
  rw [eo]
  generalize cutV d logN U = R at *
  obtain ⟨z, d1⟩ := R
  dsimp only at *
  clear h hR h1 h2 h3 hLB hsc eo
  by_cases h0 : z = 0
  · subst h0
    go_enter Try.func9, Try.ntmps9
    go_upto_region 25 with (first
      | (go_at_call 21; (with_reducible refine (CD.out _ (below_al (Below.refl _ _) _)).mono ?_); rintro e wd ⟨rfl, rfl⟩)
      | (go_at_call 22; (with_reducible refine (CS.out _ (below_al (below_al (Below.refl _ _) _) _)).mono ?_); rintro e w1 ⟨rfl, hb1⟩; have HO1 := Lib.hid ((OS.start w g m hgl hml).step (Bx.below hb1)); have HA1 := Lib.hid (below2 (below_al (below_al (Below.refl _ _) _) _) hb1); clear hb1; obtain ⟨p0, p1, p2, p3, p4, p5, p6, p7⟩ := HO1.out.flat)
      | (go_at_call 22; (with_reducible refine (CL.out _ HA1.out).mono ?_); rintro e w4 ⟨rfl, hb4⟩; have HO4 := Lib.hid (HO1.out.step (Bx.below hb4)); have HA4 := Lib.hid (below2 HA1.out hb4); clear hb4)
      | (go_at_call 24; (with_reducible refine (SC.out _).mono ?_); rintro e w5 ⟨⟨sg, sc, rfl, hLie, hge⟩, hb5⟩; have HLI := Lib.hid hLie; have HGE := Lib.hid (Nat.lt_of_lt_of_le HO4.out.lt.2 hge); have HO5 := Lib.hid (HO4.out.step (Bx.below hb5)); have HA5 := Lib.hid (below2 HA4.out hb5); have hcap : n ≤ sc := (by have := hLie.fits; have := hn.out; simp at *; omega); have hmost := hLie.most; clear hb5 hLie hge; (by_cases hs1 : sc = 1 <;> (try subst hs1)))
      | (go_at_call 25; (with_reducible refine (GE.out _ _ _ HLI.out).mono ?_); rintro e w6 ⟨rfl, hb6⟩; have HO6 := Lib.hid (HO5.out.step (Bx.below hb6)); have HA6 := Lib.hid (below2 HA5.out hb6); have HL6 := Lib.hid (HLI.out.below hb6); clear hb6; obtain ⟨q0, q1, q2, q3, q4, q5, q6, q7⟩ := HO6.out.flat)
      | (go_at_call 27; (with_reducible refine (CU.out _ (HPD.out.below ?hc)).mono ?_); (case hc => exact HA6.out.setCell (Nat.le_succ _) _); rintro e w9 ⟨rfl, HP9, HX9⟩; have HO9 := Lib.hid ((HO6.out.set3 _).step HX9.out); obtain ⟨r0, r1, r2, r3, r4, r5, r6, r7⟩ := HO9.out.flat))
    · obtain ⟨t0, t1, t2, t3, t4, t5, t6, t7⟩ := HO9.out.flat2
      obtain ⟨l7a, l7b⟩ := HO9.out.lt
      go_region
      go_wp2
      have hnn : 0 = S.recs.length := by have := hn.out; omega
      obtain ⟨f1, f2, f3, f4, f5, f6⟩ := open_fin HO9.out (.int .i64 0) (.bool false) (.string ⟨#[]⟩) (.slice (some ⟨sg, 0, none⟩) 0 0) 0 0 HP9.out _ rfl
      have hsl : sg < w9.heap.size := Nat.lt_of_lt_of_le (by have := HL6.out.lt; simpa using this) HX9.out.size
      have hsk : w9.heap[sg]? = w6.heap[sg]? := (HX9.out.block sg (by have := HL6.out.lt; simpa using this) (by have := HGE.out; omega) (by have := HGE.out; omega)).trans (heap_setCell_other _ ⟨w.heap.size + 1, 3, none⟩ sg _ (by have := HGE.out; show sg ≠ w.heap.size + 1; omega))
      refine bodyPost_ret (ret_saved rfl _ _ w.heap.size _ _ _ _ _ _ rfl rfl rfl f1) rfl ⟨⟨fun _ => ⟨w9.heap.size, some ⟨sg, 0, none⟩, 0, ?_, ?_, ?_, ?_, fun h => by cases h⟩, fun h => absurd rfl h⟩, f3, f2⟩
      · rw [savedVal, hBA2.out, hG.out, hh, ← hnn]; rfl
      · rw [← hnn, hG.out]; exact f4
      · exact Nat.le_trans (Nat.le_succ _) (Nat.le_of_lt l7b)
      · have hrf := recs_fin HL6.out HGE.out ((f5 sg hsl (by have := HGE.out; omega)).trans hsk) (by rw [f6]; omega)
        rw [if_pos rfl] at hrf
        exact hrf
    · obtain ⟨t0, t1, t2, t3, t4, t5, t6, t7⟩ := HO9.out.flat2
      obtain ⟨l7a, l7b⟩ := HO9.out.lt
      go_region
      go_wp2
      have hnn : n - 1 = S.recs.length := by have := hn.out; omega
      obtain ⟨f1, f2, f3, f4, f5, f6⟩ := open_fin HO9.out (.int .i64 0) (.bool false) (.string ⟨#[]⟩) (.slice (some ⟨sg, 1, none⟩) (n - 1) (sc - 1)) 0 ((n - 1 : Nat) : Int) HP9.out _ rfl
      have hsl : sg < w9.heap.size := Nat.lt_of_lt_of_le (by have := HL6.out.lt; simpa using this) HX9.out.size
      have hsk : w9.heap[sg]? = w6.heap[sg]? := (HX9.out.block sg (by have := HL6.out.lt; simpa using this) (by have := HGE.out; omega) (by have := HGE.out; omega)).trans (heap_setCell_other _ ⟨w.heap.size + 1, 3, none⟩ sg _ (by have := HGE.out; show sg ≠ w.heap.size + 1; omega))
      refine bodyPost_ret (ret_saved rfl _ _ w.heap.size _ _ _ _ _ _ rfl rfl rfl f1) rfl ⟨⟨fun _ => ⟨w9.heap.size, some ⟨sg, 1, none⟩, sc - 1, ?_, ?_, ?_, ?_, fun h => by cases h⟩, fun h => absurd rfl h⟩, f3, f2⟩
      · rw [savedVal, hBA2.out, hG.out, hh, ← hnn]; rfl
      · rw [← hnn, hG.out]; exact f4
      · exact Nat.le_trans (Nat.le_succ _) (Nat.le_of_lt l7b)
      · have hrf := recs_fin HL6.out HGE.out ((f5 sg hsl (by have := HGE.out; omega)).trans hsk) (by rw [f6]; omega)
        rw [if_neg hs1] at hrf
        exact hrf
  · have e0 : (z != 0) = true := bne_iff_ne.2 h0
    go_enter Try.func9, Try.ntmps9
    go_wp2_with (first
      | (go_at_call 21; (with_reducible refine (CD.out _ (below_al (Below.refl _ _) _)).mono ?_); rintro e wd ⟨rfl, rfl⟩)
      | (go_at_call 22; (with_reducible refine (CS.out _ (below_al (below_al (Below.refl _ _) _) _)).mono ?_); rintro e w1 ⟨rfl, hb1⟩; have HO1 := Lib.hid ((OS.start w g m hgl hml).step (Bx.below hb1)); have HA1 := Lib.hid (below2 (below_al (below_al (Below.refl _ _) _) _) hb1); clear hb1; obtain ⟨p0, p1, p2, p3, p4, p5, p6, p7⟩ := HO1.out.flat)
      | (go_at_call 22; (with_reducible refine (CL.out _ HA1.out).mono ?_); rintro e w4 ⟨rfl, hb4⟩; have HO4 := Lib.hid (HO1.out.step (Bx.below hb4)); have HA4 := Lib.hid (below2 HA1.out hb4); clear hb4)
      | (go_at_call 24; (with_reducible refine (SC.out _).mono ?_); rintro e w5 ⟨⟨sg, sc, rfl, hLie, hge⟩, hb5⟩; have HLI := Lib.hid hLie; have HGE := Lib.hid (Nat.lt_of_lt_of_le HO4.out.lt.2 hge); have HO5 := Lib.hid (HO4.out.step (Bx.below hb5)); have HA5 := Lib.hid (below2 HA4.out hb5); have hcap : n ≤ sc := (by have := hLie.fits; have := hn.out; simp at *; omega); have hmost := hLie.most; clear hb5 hLie hge; (by_cases hs1 : sc = 1 <;> (try subst hs1)))
      | (go_at_call 25; (with_reducible refine (GE.out _ _ _ HLI.out).mono ?_); rintro e w6 ⟨rfl, hb6⟩; have HO6 := Lib.hid (HO5.out.step (Bx.below hb6)); have HA6 := Lib.hid (below2 HA5.out hb6); have HL6 := Lib.hid (HLI.out.below hb6); clear hb6; obtain ⟨q0, q1, q2, q3, q4, q5, q6, q7⟩ := HO6.out.flat)
      | (go_at_call 27; (with_reducible refine (CU.out _ (HPD.out.below ?hc)).mono ?_); (case hc => exact HA6.out.setCell (Nat.le_succ _) _); rintro e w9 ⟨rfl, HP9, HX9⟩; have HO9 := Lib.hid ((HO6.out.set3 _).step HX9.out); obtain ⟨r0, r1, r2, r3, r4, r5, r6, r7⟩ := HO9.out.flat; obtain ⟨t0, t1, t2, t3, t4, t5, t6, t7⟩ := HO9.out.flat2))
    all_goals
      go_wp2
      obtain ⟨f1, f2, f3⟩ := open_bad HO9.out (.int .i64 0) (.bool false) (.string ⟨#[]⟩) (.slice none 0 0) HP9.out _ rfl
      exact bodyPost_ret (ret_saved rfl _ _ w.heap.size _ _ _ _ _ _ rfl rfl rfl f1) rfl ⟨⟨fun h => absurd h h0, fun _ => rfl⟩, f3, f2⟩
set_option maxHeartbeats 8000000 in
theorem open_false_C2 (w : World) (g m k B : Nat) (d : DkIn) (h : PG w g m d k B) (hk : k < 800000) (S : SavedIn) (hR : Rest d S) (hgen : S.gen ≤ 1000000) (hbase : S.base.length ≤ 100000) (hrecs : S.recs.length ≤ 100000) (hh : S.has = false) (u : Nat) (hsc : scan (logB d) = (headL S.gen :: S.recs, u)) (hu : ¬ u < (logB d).length) : Calls Try.prog 9 #[.pointer (some ⟨g, 0, none⟩)] w fun e w' => OpenRes w' w.heap.size g S (openV d S.gen).1 e ∧ Hid (PD w' g m (openV d S.gen).2.files.length (openV d S.gen).2) ∧ Hid (Bx g m w w') := by
  obtain ⟨h1, h2, h3⟩ := hR.log
  have HPD := Lib.hid h.pd
  obtain ⟨hgl, hml⟩ := h.pd.lt
  have CD : Hid (∀ W, Below w.heap.size w W → Calls Try.prog 21 #[.pointer (some ⟨g, 0, none⟩)] W fun e w' => e = .returned (.bool false) ∧ W = w') := fun W hb => by
    have := dead_any W g m _ d (h.pd.below hb)
    rw [hR.live] at this
    exact this
  obtain ⟨LB, hLB⟩ : ∃ F : ByteArray, F.data.toList = logB d := ⟨⟨(logB d).toArray⟩, rfl⟩
  have lsz : LB.size ≤ 16777216 := by
    rw [← sz_list, hLB]
    exact Nat.le_trans log_len h.gr.lens.2
  obtain ⟨zl, hzl⟩ : ∃ z, Hid ((readV d logN).2 = z) := ⟨_, rfl⟩
  have CL : Hid (∀ W, Below w.heap.size w W → Calls Try.prog 22 #[.pointer (some ⟨g, 0, none⟩), .string ⟨#[108, 111, 103]⟩] W fun e w' => e = .returned (.tuple #[.string LB, .int .i64 zl]) ∧ Below W.heap.size W w') := fun W hb => by
    have : Calls Try.prog 22 #[.pointer (some ⟨g, 0, none⟩), .string ⟨#[108, 111, 103]⟩] W fun e w' => e = .returned (.tuple #[.string ⟨(readV d logN).1.toArray⟩, .int .i64 (readV d logN).2]) ∧ Below W.heap.size W w' := read_any W g m _ d (h.pd.below hb) ⟨#[108, 111, 103]⟩ (by decide)
    rw [read_log hR.live, ← hLB, hzl.out] at this
    exact this
  obtain ⟨BA, hBA⟩ : ∃ F : ByteArray, Hid (F.data.toList = S.base) := ⟨⟨S.base.toArray⟩, rfl⟩
  have hBA2 : Hid ((⟨S.base.toArray⟩ : ByteArray) = BA) := ba_of_list hBA.out.symm
  obtain ⟨G, hG⟩ : ∃ G : Int, Hid ((S.gen : Int) = G) := ⟨_, rfl⟩
  have G0 : 0 ≤ G := by have := hG.out; omega
  have CS : Hid (∀ W, Below w.heap.size w W → Calls Try.prog 22 #[.pointer (some ⟨g, 0, none⟩), .string ⟨#[115, 110, 97, 112]⟩] W fun e w' => e = .returned (.tuple #[.string ⟨#[]⟩, .int .i64 3]) ∧ Below W.heap.size W w') := fun W hb => by
    have := read_any W g m _ d (h.pd.below hb) ⟨#[115, 110, 97, 112]⟩ (by decide)
    rw [show readV d (ByteArray.mk #[115, 110, 97, 112]).data.toList = _ from read_snap hR.live h1, hh, if_neg (by decide)] at this
    exact this
  have g0 : G = 0 := by rw [← hG.out, (h1.no hh).1]; rfl
  have b0 : BA = ⟨#[]⟩ := ba_of_list (by rw [hBA.out, (h1.no hh).2])
  subst g0
  subst b0
  have CU : Hid (∀ W, PD W g m d.files.length d → Calls Try.prog 27 #[.pointer (some ⟨g, 0, none⟩), .string ⟨#[108, 111, 103]⟩, .int .i64 (u : Int)] W fun e w' => e = .returned (.int .i64 (cutV d logN u).1) ∧ Hid (PD w' g m (cutV d logN u).2.files.length (cutV d logN u).2) ∧ Hid (Bx g m W w')) := fun W hp => cut_pg W g m k B d ⟨hp, h.gr⟩ (by omega) ⟨#[108, 111, 103]⟩ (by decide) (u : Int)
  obtain ⟨n, hn⟩ : ∃ n, Hid (S.recs.length + 1 = n) := ⟨_, rfl⟩
  obtain ⟨U, hU⟩ : ∃ U : Int, Hid ((u : Int) = U) := ⟨_, rfl⟩
  have hfr : fitL S.recs := by
    rcases h2.told with ⟨_, x, l, u2, e1, e2⟩ | ⟨_, e2⟩ | ⟨e1, _⟩
    · rw [hsc] at e2
      have e3 := congrArg (fun p : List (List UInt8) × Nat => p.1.head?) e2
      have e4 : headL S.gen = headL x := by simpa using e3
      have e5 : num8 S.gen = num8 x := by have := congrArg (List.drop 1) e4; exact this
      have := num8_inj (by omega) (by omega) e5
      omega
    · rw [hsc] at e2
      cases e2
    · exact e1
  have SC : Hid (∀ W, Calls Try.prog 24 #[.string LB] W fun e w' => (∃ g cap, e = .returned (.tuple #[.slice (some ⟨g, 0, none⟩) n cap, .int .i64 U]) ∧ Lie w' g (headL S.gen :: S.recs) cap ∧ W.heap.size ≤ g) ∧ Below W.heap.size W w') := fun W => by
    have := scan_yes LB (by omega) _ _ _ (by rw [hLB]; exact hsc) W
    rw [hn.out, hU.out] at this
    exact this
  have GE : Hid (∀ W sg sc, Lie W sg (headL S.gen :: S.recs) sc → Calls Try.prog 25 #[.slice (some ⟨sg, 0, none⟩) n sc] W fun e w' => e = .returned (.tuple #[.int .i64 0, .bool true]) ∧ Below W.heap.size W w') := fun W sg sc hL => by
    have := gen_yes S.gen (by omega) S.recs sg sc W hL (by omega)
    rw [hn.out, hG.out] at this
    exact this
  have n1 : 1 ≤ n := by have := hn.out; omega
  have n2 : n ≤ 100001 := by have := hn.out; omega
  have hus : decide (U < (LB.size : Int)) = false := decide_eq_false (by have := hU.out; rw [← hLB, sz_list] at hu; omega)
  have hus' : ¬ U < (LB.size : Int) := by have := hU.out; rw [← hLB, sz_list] at hu; omega
  have eo : openV d S.gen = (0, d) := by
    unfold openV
    rw [hsc]
    dsimp only
    rw [headL_gen, num_num8 S.gen (by omega), if_neg (by omega), if_neg hu]
  rw [hU.out] at CU
  rw [eo]
  clear h hR h1 h2 h3 hLB hsc eo
  go_enter Try.func9, Try.ntmps9
  go_upto_region 25 with (first
    | (go_at_call 21; (with_reducible refine (CD.out _ (below_al (Below.refl _ _) _)).mono ?_); rintro e wd ⟨rfl, rfl⟩)
    | (go_at_call 22; (with_reducible refine (CS.out _ (below_al (below_al (Below.refl _ _) _) _)).mono ?_); rintro e w1 ⟨rfl, hb1⟩; have HO1 := Lib.hid ((OS.start w g m hgl hml).step (Bx.below hb1)); have HA1 := Lib.hid (below2 (below_al (below_al (Below.refl _ _) _) _) hb1); clear hb1; obtain ⟨p0, p1, p2, p3, p4, p5, p6, p7⟩ := HO1.out.flat)
    | (go_at_call 22; (with_reducible refine (CL.out _ HA1.out).mono ?_); rintro e w4 ⟨rfl, hb4⟩; have HO4 := Lib.hid (HO1.out.step (Bx.below hb4)); have HA4 := Lib.hid (below2 HA1.out hb4); clear hb4)
    | (go_at_call 24; (with_reducible refine (SC.out _).mono ?_); rintro e w5 ⟨⟨sg, sc, rfl, hLie, hge⟩, hb5⟩; have HLI := Lib.hid hLie; have HGE := Lib.hid (Nat.lt_of_lt_of_le HO4.out.lt.2 hge); have HO5 := Lib.hid (HO4.out.step (Bx.below hb5)); have HA5 := Lib.hid (below2 HA4.out hb5); have hcap : n ≤ sc := (by have := hLie.fits; have := hn.out; simp at *; omega); have hmost := hLie.most; clear hb5 hLie hge; (by_cases hs1 : sc = 1 <;> (try subst hs1)))
    | (go_at_call 25; (with_reducible refine (GE.out _ _ _ HLI.out).mono ?_); rintro e w6 ⟨rfl, hb6⟩; have HO6 := Lib.hid (HO5.out.step (Bx.below hb6)); have HA6 := Lib.hid (below2 HA5.out hb6); have HL6 := Lib.hid (HLI.out.below hb6); clear hb6; obtain ⟨q0, q1, q2, q3, q4, q5, q6, q7⟩ := HO6.out.flat))
  · have HO8 := Lib.hid (HO6.out.set3 (.slice (some ⟨sg, 0, none⟩) 0 0))
    have HP8 := Lib.hid (HPD.out.below (below_setR HA6.out (.slice (some ⟨sg, 0, none⟩) 0 0)))
    have HK8 : Hid ((w6.setCell ⟨w.heap.size + 1, 3, none⟩ (.slice (some ⟨sg, 0, none⟩) 0 0)).heap[sg]? = w6.heap[sg]? ∧ sg < (w6.setCell ⟨w.heap.size + 1, 3, none⟩ (.slice (some ⟨sg, 0, none⟩) 0 0)).heap.size) := ⟨heap_setCell_other _ ⟨w.heap.size + 1, 3, none⟩ sg _ (by have := HGE.out; show sg ≠ w.heap.size + 1; omega), by have := HL6.out.lt; simpa using this⟩
    generalize w6.setCell ⟨w.heap.size + 1, 3, none⟩ (.slice (some ⟨sg, 0, none⟩) 0 0) = w8 at *
    obtain ⟨r0, r1, r2, r3, r4, r5, r6, r7⟩ := HO8.out.flat
    obtain ⟨t0, t1, t2, t3, t4, t5, t6, t7⟩ := HO8.out.flat2
    obtain ⟨l7a, l7b⟩ := HO8.out.lt
    go_region
    go_wp2
    have hnn : 0 = S.recs.length := by have := hn.out; omega
    obtain ⟨f1, f2, f3, f4, f5, f6⟩ := open_fin HO8.out (.int .i64 0) (.bool false) (.string ⟨#[]⟩) (.slice (some ⟨sg, 0, none⟩) 0 0) 0 0 HP8.out _ rfl
    obtain ⟨hsk, hsl⟩ := HK8.out
    refine bodyPost_ret (ret_saved rfl _ _ w.heap.size _ _ _ _ _ _ rfl rfl rfl f1) rfl ⟨⟨fun _ => ⟨w8.heap.size, some ⟨sg, 0, none⟩, 0, ?_, ?_, ?_, ?_, fun h => by cases h⟩, fun h => absurd rfl h⟩, f3, f2⟩
    · rw [savedVal, hBA2.out, hG.out, hh, ← hnn]; rfl
    · rw [← hnn, hG.out]; exact f4
    · exact Nat.le_trans (Nat.le_succ _) (Nat.le_of_lt l7b)
    · have hrf := recs_fin HL6.out HGE.out ((f5 sg hsl (by have := HGE.out; omega)).trans hsk) (by rw [f6]; omega)
      rw [if_pos rfl] at hrf
      exact hrf
  · have HO8 := Lib.hid (HO6.out.set3 (.slice (some ⟨sg, 1, none⟩) (n - 1) (sc - 1)))
    have HP8 := Lib.hid (HPD.out.below (below_setR HA6.out (.slice (some ⟨sg, 1, none⟩) (n - 1) (sc - 1))))
    have HK8 : Hid ((w6.setCell ⟨w.heap.size + 1, 3, none⟩ (.slice (some ⟨sg, 1, none⟩) (n - 1) (sc - 1))).heap[sg]? = w6.heap[sg]? ∧ sg < (w6.setCell ⟨w.heap.size + 1, 3, none⟩ (.slice (some ⟨sg, 1, none⟩) (n - 1) (sc - 1))).heap.size) := ⟨heap_setCell_other _ ⟨w.heap.size + 1, 3, none⟩ sg _ (by have := HGE.out; show sg ≠ w.heap.size + 1; omega), by have := HL6.out.lt; simpa using this⟩
    generalize w6.setCell ⟨w.heap.size + 1, 3, none⟩ (.slice (some ⟨sg, 1, none⟩) (n - 1) (sc - 1)) = w8 at *
    obtain ⟨r0, r1, r2, r3, r4, r5, r6, r7⟩ := HO8.out.flat
    obtain ⟨t0, t1, t2, t3, t4, t5, t6, t7⟩ := HO8.out.flat2
    obtain ⟨l7a, l7b⟩ := HO8.out.lt
    go_region
    go_wp2
    have hnn : n - 1 = S.recs.length := by have := hn.out; omega
    obtain ⟨f1, f2, f3, f4, f5, f6⟩ := open_fin HO8.out (.int .i64 0) (.bool false) (.string ⟨#[]⟩) (.slice (some ⟨sg, 1, none⟩) (n - 1) (sc - 1)) 0 ((n - 1 : Nat) : Int) HP8.out _ rfl
    obtain ⟨hsk, hsl⟩ := HK8.out
    refine bodyPost_ret (ret_saved rfl _ _ w.heap.size _ _ _ _ _ _ rfl rfl rfl f1) rfl ⟨⟨fun _ => ⟨w8.heap.size, some ⟨sg, 1, none⟩, sc - 1, ?_, ?_, ?_, ?_, fun h => by cases h⟩, fun h => absurd rfl h⟩, f3, f2⟩
    · rw [savedVal, hBA2.out, hG.out, hh, ← hnn]; rfl
    · rw [← hnn, hG.out]; exact f4
    · exact Nat.le_trans (Nat.le_succ _) (Nat.le_of_lt l7b)
    · have hrf := recs_fin HL6.out HGE.out ((f5 sg hsl (by have := HGE.out; omega)).trans hsk) (by rw [f6]; omega)
      rw [if_neg hs1] at hrf
      exact hrf
theorem open_pg (w : World) (g m k B : Nat) (d : DkIn) (h : PG w g m d k B) (hk : k < 800000) (hB : B ≤ 1000000) (S : SavedIn) (hR : Rest d S) (hgen : S.gen ≤ 1000000) (hbase : S.base.length ≤ 100000) (hrecs : S.recs.length ≤ 100000) : Calls Try.prog 9 #[.pointer (some ⟨g, 0, none⟩)] w fun e w' => OpenRes w' w.heap.size g S (openV d S.gen).1 e ∧ Hid (PD w' g m (openV d S.gen).2.files.length (openV d S.gen).2) ∧ Hid (Bx g m w w') := by
  obtain ⟨h1, h2, h3⟩ := hR.log
  have hlen : (scan (logB d)).1.length ≤ 1000000 := by
    have := Frm.scanF_len (logB d).length (logB d)
    have h4 := h.gr.by'
    have h5 := log_len (d := d)
    unfold scan
    omega
  rcases h2.told with ⟨hrn, x, l, u, e1, e2⟩ | ⟨hrn, e2⟩ | ⟨e1, u, e2, -⟩
  · cases hh : S.has with
    | true =>
      rw [e2] at hlen
      exact open_true_A w g m k B d h hk S hR hgen hbase hrecs hh x u l e1 e2 (by simp at hlen; omega) hrn
    | false =>
      have := (h1.no hh).1
      omega
  · cases hh : S.has with
    | true => exact open_true_B w g m k B d h hk S hR hgen hbase hrecs hh e2 hrn
    | false => exact open_false_B w g m k B d h hk S hR hgen hbase hrecs hh e2 hrn
  · by_cases hu : u < (logB d).length
    · cases hh : S.has with
      | true => exact open_true_C1 w g m k B d h hk S hR hgen hbase hrecs hh u e2 hu
      | false => exact open_false_C1 w g m k B d h hk S hR hgen hbase hrecs hh u e2 hu
    · cases hh : S.has with
      | true => exact open_true_C2 w g m k B d h hk S hR hgen hbase hrecs hh u e2 hu
      | false => exact open_false_C2 w g m k B d h hk S hR hgen hbase hrecs hh u e2 hu
end Jrn
end Go.Proofs.Yteaikleofboknaa
end
