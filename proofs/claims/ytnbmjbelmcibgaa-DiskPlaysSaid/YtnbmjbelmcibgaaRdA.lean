/- The document's disk: where it stands; what is found. -/
import Derived.Test.YtnbmjbelmcibgaaDskSu
set_option linter.unusedSimpArgs false
set_option linter.unusedVariables false
namespace Go.Proofs.Ytnbmjbelmcibgaa
open Go.RowKit Go.Great Go.Maps
namespace Dsk
/-- A file's cells. -/
def fcells (f : FileIn) : List Value := [.string ⟨f.nm.toArray⟩, .string ⟨f.by'.toArray⟩, .int .i64 f.sure]
def fileVals (l : List FileIn) : List Value := l.flatMap fcells
theorem fvals_append (a b : List FileIn) : fileVals (a ++ b) = fileVals a ++ fileVals b := by simp [fileVals]
theorem fvals_length (l : List FileIn) : (fileVals l).length = l.length * 3 := by
  induction l with
  | nil => rfl
  | cons a l ih => simp only [fileVals, List.flatMap_cons, List.length_append, List.length_cons, fcells, List.length_nil] at ih ⊢; omega
theorem fvals_get : ∀ (l : List FileIn) (i : Nat) (h : i < l.length) (j : Nat), j < 3 → (fileVals l)[i * 3 + j]? = (fcells l[i])[j]?
  | [], i, h, j, hj => absurd h (Nat.not_lt_zero i)
  | a :: l, 0, h, j, hj => by
    show (fcells a ++ fileVals l)[0 * 3 + j]? = _
    rw [Nat.zero_mul, Nat.zero_add, List.getElem?_append_left (by simpa [fcells] using hj)]
    rfl
  | a :: l, i + 1, h, j, hj => by
    show (fcells a ++ fileVals l)[(i + 1) * 3 + j]? = _
    have e : (fcells a).length = 3 := rfl
    rw [List.getElem?_append_right (by rw [e]; omega), e, show (i + 1) * 3 + j - 3 = i * 3 + j from by omega]
    exact fvals_get l i (by simpa using h) j hj
def cellR (v : Value) (d : DkIn) (i : Nat) : Value := if i = 0 then v else if i = 1 then .int .i64 d.room else if i = 2 then .int .i64 d.ops else if i = 3 then .int .i64 d.last else if i = 4 then .bool d.half else .bool d.dead
/-- The document's disk in a block, its files in a row. -/
structure RD (w : World) (g B : Nat) (v : Value) (d : DkIn) : Prop where
  row : w.rowIs g 50 6 (cellR v d)
  own : w.ownsRow B 70 3 v d.files.length (fileVals d.files)
  ne : v.ownBlock ≠ some g
  lo : B ≤ g
theorem RD.cells {w : World} {g B : Nat} {v : Value} {d : DkIn} (h : RD w g B v d) : w.cell? ⟨g, 0, none⟩ = some v ∧ w.cell? ⟨g, 1, none⟩ = some (.int .i64 d.room) ∧ w.cell? ⟨g, 2, none⟩ = some (.int .i64 d.ops) ∧ w.cell? ⟨g, 3, none⟩ = some (.int .i64 d.last) ∧ w.cell? ⟨g, 4, none⟩ = some (.bool d.half) ∧ w.cell? ⟨g, 5, none⟩ = some (.bool d.dead) :=
  ⟨World.rowIs.cell h.row (i := 0) (by decide), World.rowIs.cell h.row (i := 1) (by decide), World.rowIs.cell h.row (i := 2) (by decide), World.rowIs.cell h.row (i := 3) (by decide), World.rowIs.cell h.row (i := 4) (by decide), World.rowIs.cell h.row (i := 5) (by decide)⟩
theorem RD.lt {w : World} {g B : Nat} {v : Value} {d : DkIn} (h : RD w g B v d) : g < w.heap.size := World.rowIs.lt h.row
theorem RD.hB {w : World} {g B : Nat} {v : Value} {d : DkIn} (h : RD w g B v d) : B ≤ w.heap.size := Nat.le_of_lt (Nat.lt_of_le_of_lt h.lo h.lt)
/-- What turns no block from a bound on leaves the disk. -/
theorem RD.kept {w w' : World} {g B : Nat} {v : Value} {d : DkIn} {o : Option Nat} (h : RD w g B v d) (hg : w.grownBy w' o) (h1 : o ≠ some g) (h2 : v.ownBlock = none ∨ v.ownBlock ≠ o) : RD w' g B v d :=
  ⟨h.row.of_block (hg.block g h.lt fun e => h1 e.symm), h.own.kept hg h2, h.ne, h.lo⟩
theorem RD.below {w w' : World} {g B : Nat} {v : Value} {d : DkIn} (h : RD w g B v d) (hb : Below w.heap.size w w') : RD w' g B v d :=
  h.kept (o := none) ⟨hb.os, hb.tape, hb.output, hb.size, fun k hk _ => hb.block k hk⟩ (by simp) (by cases v.ownBlock <;> simp)
/-- Where a row stands. -/
def RForm (w : World) (g B : Nat) (v : Value) (l : List FileIn) (n : Nat) : Prop := ∃ a cap, v = .slice a n cap ∧ ∀ i, (hi : i < l.length) → ∃ gv, a = some ⟨gv, 0, none⟩ ∧ B ≤ gv ∧ gv < w.heap.size ∧ gv ≠ g ∧ w.cell? ⟨gv, i * 3, none⟩ = some (.string ⟨l[i].nm.toArray⟩) ∧ w.cell? ⟨gv, i * 3 + 1, none⟩ = some (.string ⟨l[i].by'.toArray⟩) ∧ w.cell? ⟨gv, i * 3 + 2, none⟩ = some (.int .i64 l[i].sure)
theorem RD.form {w : World} {g B : Nat} {v : Value} {d : DkIn} (h : RD w g B v d) {n : Nat} (hn : d.files.length = n) : RForm w g B v d.files n := by
  subst hn
  have hne := h.ne
  have h' := h.own
  obtain ⟨h0, h1⟩ := h.own
  rcases h1 with ⟨rfl, hz⟩ | ⟨gv, cap, cur, rfl, hg, hb, hn, hm, hs, ht⟩
  · exact ⟨none, 0, by rw [hz], fun i hi => absurd hi (by omega)⟩
  · have e : ∀ j, ((⟨gv, 0, none⟩ : Addr).add j) = ⟨gv, j, none⟩ := fun j => by unfold Addr.add; split <;> simp_all
    refine ⟨some ⟨gv, 0, none⟩, cap, rfl, fun i hi => ⟨gv, rfl, hg, (h'.lt gv rfl).2, fun e => hne (by rw [e]; rfl), ?_, ?_, ?_⟩⟩
    · have := h'.cells rfl (i * 3 + 0) _ (fvals_get d.files i hi 0 (by decide))
      rw [e] at this
      exact this
    · have := h'.cells rfl (i * 3 + 1) _ (fvals_get d.files i hi 1 (by decide))
      rw [e] at this
      exact this
    · have := h'.cells rfl (i * 3 + 2) _ (fvals_get d.files i hi 2 (by decide))
      rw [e] at this
      exact this
/-- A number of the disk is set anew. -/
theorem RD.setC {w : World} {g B : Nat} {v : Value} {d d' : DkIn} (h : RD w g B v d) (j : Nat) (u : Value) (hj : 1 ≤ j) (hf : d'.files = d.files) (hc : ∀ i, i < 6 → (if i = j then u else cellR v d i) = cellR v d' i) : RD (w.setCell ⟨g, j, none⟩ u) g B v d' := by
  refine ⟨World.rowIs.congr (World.rowIs.set h.row j _) fun i hi => ?_, ?_, h.ne, h.lo⟩
  · rw [← hc i hi]
  · rw [hf]
    refine h.own.kept (w' := w.setCell ⟨g, j, none⟩ u) (row := some g) ⟨rfl, rfl, rfl, by simp, fun k hk hne => Below.heap_setCell _ _ _ _ fun e => hne (by rw [e])⟩ (Or.inr h.ne)
theorem RD.setOps {w : World} {g B : Nat} {v : Value} {d : DkIn} (h : RD w g B v d) (x : Int) : RD (w.setCell ⟨g, 2, none⟩ (.int .i64 x)) g B v { d with ops := x } :=
  h.setC 2 _ (by decide) rfl fun i hi => by
    match i, hi with
    | 0, _ => rfl
    | 1, _ => rfl
    | 2, _ => rfl
    | 3, _ => rfl
    | 4, _ => rfl
    | 5, _ => rfl
theorem RD.setLast {w : World} {g B : Nat} {v : Value} {d : DkIn} (h : RD w g B v d) (x : Int) : RD (w.setCell ⟨g, 3, none⟩ (.int .i64 x)) g B v { d with last := x } :=
  h.setC 3 _ (by decide) rfl fun i hi => by
    match i, hi with
    | 0, _ => rfl
    | 1, _ => rfl
    | 2, _ => rfl
    | 3, _ => rfl
    | 4, _ => rfl
    | 5, _ => rfl
theorem RD.setHalf {w : World} {g B : Nat} {v : Value} {d : DkIn} (h : RD w g B v d) (x : Bool) : RD (w.setCell ⟨g, 4, none⟩ (.bool x)) g B v { d with half := x } :=
  h.setC 4 _ (by decide) rfl fun i hi => by
    match i, hi with
    | 0, _ => rfl
    | 1, _ => rfl
    | 2, _ => rfl
    | 3, _ => rfl
    | 4, _ => rfl
    | 5, _ => rfl
theorem RD.setDead {w : World} {g B : Nat} {v : Value} {d : DkIn} (h : RD w g B v d) (x : Bool) : RD (w.setCell ⟨g, 5, none⟩ (.bool x)) g B v { d with dead := x } :=
  h.setC 5 _ (by decide) rfl fun i hi => by
    match i, hi with
    | 0, _ => rfl
    | 1, _ => rfl
    | 2, _ => rfl
    | 3, _ => rfl
    | 4, _ => rfl
    | 5, _ => rfl
/-- Another row of files is laid in. -/
theorem RD.setFiles {w : World} {g B : Nat} {v v' : Value} {d : DkIn} {l : List FileIn} (h : w.rowIs g 50 6 (cellR v d)) (lo : B ≤ g) (ho : w.ownsRow B 70 3 v' l.length (fileVals l)) (hne : v'.ownBlock ≠ some g) : RD (w.setCell ⟨g, 0, none⟩ v') g B v' { d with files := l } := by
  refine ⟨World.rowIs.congr (World.rowIs.set h 0 _) fun i hi => ?_, ho.kept (w' := w.setCell ⟨g, 0, none⟩ v') (row := some g) ⟨rfl, rfl, rfl, by simp, fun k hk hne => Below.heap_setCell _ _ _ _ fun e => hne (by rw [e])⟩ (Or.inr hne), hne, lo⟩
  match i, hi with
  | 0, _ => rfl
  | 1, _ => rfl
  | 2, _ => rfl
  | 3, _ => rfl
  | 4, _ => rfl
  | 5, _ => rfl
theorem below_set {w : World} {B g : Nat} (hg : B ≤ g) (j : Nat) (u : Value) : Below B w (w.setCell ⟨g, j, none⟩ u) := ⟨rfl, rfl, rfl, by simp, fun k hk => Below.heap_setCell _ _ _ _ fun e => by have : k = g := e; omega⟩
/-- What is found: where. -/
def Found (s : List UInt8) (l : List FileIn) (r : Int) : Prop := (r = -1 ∧ find s l = none) ∨ ∃ k : Nat, r = k ∧ ∃ h : k < l.length, l[k].nm = s ∧ find s l = some l[k]
theorem find_first {s : List UInt8} {l : List FileIn} {k : Nat} (hk : k < l.length) (h1 : ∀ i, (hi : i < k) → l[i].nm ≠ s) (h2 : l[k].nm = s) : find s l = some l[k] := by
  unfold find
  rw [List.find?_eq_some_iff_getElem]
  exact ⟨decide_eq_true h2, k, hk, rfl, fun j hj => by simpa using h1 j hj⟩
set_option maxRecDepth 100000 in
set_option maxHeartbeats 4000000 in
theorem rfind_any (w : World) (g B : Nat) (v : Value) (d : DkIn) (h : RD w g B v d) (hn : d.files.length < 100000) (s : ByteArray) : Calls Try.prog 42 #[.pointer (some ⟨g, 0, none⟩), .string s] w fun e w' => (∃ r, e = .returned (.int .i64 r) ∧ Found s.data.toList d.files r) ∧ w' = w := by
  obtain ⟨L, hL⟩ : ∃ L, Hid (d.files.length = L) := ⟨_, rfl⟩
  obtain ⟨c0, -⟩ := h.cells
  have hgl := h.lt
  obtain ⟨a, cap, rfl, HR⟩ := h.form hL.out
  have HR := Lib.hid HR
  clear h
  go_enter Try.func42, Try.ntmps42
  go_wp2
  go_loopw [5] (fun x wr => ∃ k : Nat, x = .int .i64 (k : Int) ∧ k ≤ L ∧ Hid (∀ i, (hi : i < k) → (hl : i < d.files.length) → d.files[i].nm ≠ s.data.toList) ∧ wr = w) (fun x _ => L - (intOf x).toNat)
  case atStart => exact ⟨0, rfl, Nat.zero_le _, fun i hi => absurd hi (Nat.not_lt_zero i), rfl⟩
  case round =>
    obtain ⟨k, rfl, hk, HF, rfl⟩ := hrel
    have hLb : L < 100000 := by have := hL.out; omega
    by_cases hkl : k < L
    · have dk : decide ((k : Int) < (L : Int)) = true := decide_eq_true (by omega)
      have hkl2 : k < d.files.length := by rw [hL.out]; exact hkl
      obtain ⟨gv, rfl, hg1, hg2, hg3, x0, x1, x2⟩ := HR.out k hkl2
      by_cases hs : d.files[k].nm = s.data.toList
      · have HFo : Hid (Found s.data.toList d.files (k : Int)) := Or.inr ⟨k, rfl, hkl2, hs, find_first hkl2 (fun i hi => HF.out i hi (by omega)) hs⟩
        rw [hs] at x0
        have e1 : (s.toList == s.toList) = true := beq_self_eq_true _
        clear hs x1 x2
        go_wp2
        go_ret
        exact ⟨⟨k, rfl, HFo.out⟩, rfl⟩
      · have HN : Hid (∀ i, (hi : i < k + 1) → (hl : i < d.files.length) → d.files[i].nm ≠ s.data.toList) := fun i hi hl => by
          by_cases hik : i = k
          · subst hik; exact hs
          · exact HF.out i (by omega) hl
        have e1 : (d.files[k].nm == s.toList) = false := beq_eq_false_iff_ne.2 (by rw [ByteArray.toList_eq]; exact hs)
        generalize d.files[k].nm = z at *
        clear x1 x2
        go_wp2
        go_roundw
        case rel => exact ⟨k + 1, by go_num, by omega, HN, by first | rfl | trivial⟩
        case measure => simp [intOf]; omega
    · have dk : decide ((k : Int) < (L : Int)) = false := decide_eq_false (by omega)
      have HFo : Hid (Found s.data.toList d.files (-1)) := Or.inl ⟨rfl, (find_none _).2 fun f hf => by
        obtain ⟨i, hi, e⟩ := List.mem_iff_getElem.1 hf
        rw [← e]
        exact HF.out i (by have := hL.out; omega) hi⟩
      go_wp2
      go_ret
      exact ⟨⟨-1, rfl, HFo.out⟩, rfl⟩
end Dsk
end Go.Proofs.Ytnbmjbelmcibgaa
