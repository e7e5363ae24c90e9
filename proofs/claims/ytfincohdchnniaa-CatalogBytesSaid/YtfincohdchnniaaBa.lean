/- Texts put together: Own, InI, Row, GraA, GraW, GraW2. -/
import Derived.Test.YtfincohdchnniaaChecked
import Derived.WalkKit
import Derived.Below
import Derived.Deep.AppendLies
import Derived.Deep.RegionLaw
import Derived.Laws.IdiomStrings
import Derived.Laws.BytesArg
import Derived.Lib.Hide
import Derived.WalkLawsBesides
import Derived.Laws.DeepStrings4
import Derived.WalkSmall
import Derived.ProofKit
import Derived.ChangeSlices
import Derived.OneCell
import Derived.Lib.SliceRun
import Derived.BigFrame
import Derived.Deep.OwnRows
import Derived.Deep.RegionHeld3
import Derived.Deep.DeepCutAuto
import Derived.Deep.QuietTactic
set_option linter.all false
namespace Go.Proofs.Ytfincohdchnniaa
open Go.RowKit
namespace Own
theorem own_block {w : World} {base : Nat} {e : TypeId} {size : Nat} {v : Value} {n : Nat} {xs : List Value} (h : w.ownsRow base e size v n xs) {B : Nat} (hB : B ≤ base) : ∀ k, v.ownBlock = some k → B ≤ k :=
  fun k hk => Nat.le_trans hB (h.lt k hk).1
/-- One element behind a row of one's own, in a region that draws its order. -/
theorem step_one {P : Program} {ops : Array Oper} {o : Oper} {a : Act} {w : World} {K : Act → World → Prop} {Q : Exit → Act → World → Prop} {E : Prop} (hgd : o.guard = none) (s x : Operand) (t : TypeId)
    (ho : o.op = .call { callee := .builtin .append, args := #[s, x], argTypes := #[t, t] })
    (base : Nat) (e : TypeId) (i : TypeInfo) (z : Value) (bytes : Nat) (ht : P.underlying t = some (.slice e)) (hi : P.info? e = some i) (hz : i.zero = some z)
    (hsize : i.size = 1) (hby : i.bytes = bytes) (hzs : z.cells.size = 1)
    (v : Value) (n : Nat) (xs : List Value) (hs : a.eval s = v) (ad : Addr) (c : Nat) (u : Value) (hx : a.eval x = .slice (some ad) 1 c) (hown : w.ownsRow base e 1 v n xs)
    (hu : w.cell? ad = some u) (h1 : u.oneCell' = true) (h63 : n + 1 ≤ maxLen) (hbytes : (n + 1) * bytes ≤ 140737488355328) (hbase : base ≤ w.heap.size)
    (h : ∀ v' w', w'.ownsRow base e 1 v' (n + 1) (xs ++ [u]) → w.grownBy w' v.ownBlock → K (a.put o.dst v') w') :
    if Region.wanted o (yielded ops a.tmps) = true then Oper.wp P o a w K Q else E :=
  step_append_lies w hgd s x t ho base e i z 1 bytes ht hi hz hsize hby hzs (by decide) v n xs hs hown ad 1 c [u] hx rfl
    (fun j u2 hj => by cases j with
      | zero => simp at hj; subst hj; simpa [Addr.add] using hu
      | succ j => simp at hj) (fun u2 hw => by simp at hw; subst hw; exact h1) (by decide) h63 hbytes hbase _ rfl
    (fun g cap w' hown' hgrow _ _ => h _ w' hown' hgrow)
/-- One element behind a row of one's own. -/
theorem list_one {P : Program} {ops : Array Oper} {rest : List Oper} {o : Oper} {a : Act} {w : World} {Q : Exit → Act → World → Prop} (hgd : o.guard = none) (s x : Operand) (t : TypeId)
    (ho : o.op = .call { callee := .builtin .append, args := #[s, x], argTypes := #[t, t] })
    (base : Nat) (e : TypeId) (i : TypeInfo) (z : Value) (bytes : Nat) (ht : P.underlying t = some (.slice e)) (hi : P.info? e = some i) (hz : i.zero = some z)
    (hsize : i.size = 1) (hby : i.bytes = bytes) (hzs : z.cells.size = 1)
    (v : Value) (n : Nat) (xs : List Value) (hs : a.eval s = v) (ad : Addr) (c : Nat) (u : Value) (hx : a.eval x = .slice (some ad) 1 c) (hown : w.ownsRow base e 1 v n xs)
    (hu : w.cell? ad = some u) (h1 : u.oneCell' = true) (h63 : n + 1 ≤ maxLen) (hbytes : (n + 1) * bytes ≤ 140737488355328) (hbase : base ≤ w.heap.size)
    (h : ∀ v' w', w'.ownsRow base e 1 v' (n + 1) (xs ++ [u]) → w.grownBy w' v.ownBlock → wpList P ops Q rest (a.put o.dst v') w') : wpList P ops Q (o :: rest) a w :=
  wpList_append_own w hgd s x t ho base e i z 1 bytes ht hi hz hsize hby hzs (by decide) v n xs hs hown ad 1 c [u] hx rfl
    (fun j u2 hj => by cases j with
      | zero => simp at hj; subst hj; simpa [Addr.add] using hu
      | succ j => simp at hj) (fun u2 hw => by simp at hw; subst hw; exact h1) h63 hbytes hbase
    (fun v' w' hown' hgrow _ => h v' w' hown' hgrow)
/-- Bytes as cells. -/
def byteVals (l : List UInt8) : List Value := l.map fun b => Value.int .u8 b.toNat
theorem byteVals_append (a b : List UInt8) : byteVals (a ++ b) = byteVals a ++ byteVals b := by simp [byteVals]
theorem byteVals_length (a : List UInt8) : (byteVals a).length = a.length := by simp [byteVals]
/-- 'string(b)' of bytes of one's own. -/
theorem run_back {P : Program} {w : World} {base : Nat} {e src dst : TypeId} {v : Value} {l : List UInt8} (hs : P.underlying src = some (.slice e)) (he : P.underlying e = some (.int .u8)) (hd : P.underlying dst = some .string)
    (h : w.ownsRow base e 1 v l.length (byteVals l)) : (convert src dst v).run P w = .ok (.string ⟨l.toArray⟩) w := by
  rcases h.2 with ⟨rfl, h0⟩ | ⟨g, cap, cur, rfl, _, _, _⟩
  · have : l = [] := List.length_eq_zero_iff.1 h0
    subst this
    exact run_convert_bytes_nil w src e hs he 0 0 dst hd
  · apply run_convert_bytes_back w src dst e _ cap l hs he hd
    intro j hj
    exact h.cells rfl j _ (by simp [byteVals, hj])
theorem ownsRow_drewN {w : World} {base : Nat} {e : TypeId} {size : Nat} {v : Value} {n : Nat} {xs : List Value} (h : w.ownsRow base e size v n xs) (q : Nat) : (w.drewN q).ownsRow base e size v n xs := h
theorem ownsRow_drew {w : World} {base : Nat} {e : TypeId} {size : Nat} {v : Value} {n : Nat} {xs : List Value} (h : w.ownsRow base e size v n xs) : w.drew.ownsRow base e size v n xs := h
theorem cell_new (w : World) (x : Value) (t : TypeId) : (w.alloc (.cells #[x] t)).cell? ⟨w.heap.size, 0, none⟩ = some x :=
  (cell_of_row _ _ 0 #[x] t (0, 0) (by show (w.heap.push _)[w.heap.size]? = _; simp)).trans rfl
/-- 'string(b)' of a block of bytes. -/
theorem run_back_block {P : Program} {w : World} {e src dst T : TypeId} {fr : Nat × Nat} (g cap : Nat) (l : List UInt8) (rest : List Value) (hs : P.underlying src = some (.slice e)) (he : P.underlying e = some (.int .u8)) (hd : P.underlying dst = some .string)
    (h : w.heap[g]? = some (.cells (byteVals l ++ rest).toArray T fr)) : (convert src dst (.slice (some ⟨g, 0, none⟩) l.length cap)).run P w = .ok (.string ⟨l.toArray⟩) w := by
  apply run_convert_bytes_back w src dst e _ cap l hs he hd
  intro j hj
  have hadd : (⟨g, 0, none⟩ : Addr).add j = ⟨g, j, none⟩ := by unfold Addr.add; split <;> simp_all
  rw [hadd, cell_of_row _ _ _ _ _ _ h]
  simp [byteVals, List.getElem?_append, hj]
theorem heap_new (w : World) (o : Obj) : (w.alloc o).heap[w.heap.size]? = some o := by
  show (w.heap.push _)[w.heap.size]? = _; simp
theorem run_back_new {P : Program} {w : World} {e src dst T : TypeId} (cap : Nat) (C : Array Value) (l : List UInt8) (n : Nat) (hs : P.underlying src = some (.slice e)) (he : P.underlying e = some (.int .u8)) (hd : P.underlying dst = some .string)
    (hC : C = (byteVals l).toArray) (hn : l.length = n) : (convert src dst (.slice (some ⟨w.heap.size, 0, none⟩) n cap)).run P (w.alloc (.cells C T)) = .ok (.string ⟨l.toArray⟩) (w.alloc (.cells C T)) := by
  subst hn
  exact run_back_block w.heap.size cap l [] hs he hd (by rw [heap_new, hC, List.append_nil])
/-- A cut of a string, its bounds written as a walk writes them. -/
theorem slice_str {P : Program} {t : TypeId} (ht : P.underlying t = some .string) (s : ByteArray) (lo hi : Nat) (i j : Int) (h1 : i = (lo : Int)) (h2 : j = (hi : Int)) (h3 : lo ≤ hi) (h4 : hi ≤ s.size) (w : World) :
    (Instr.slice t (.string s) (some (.int .i64 i)) (some (.int .i64 j)) none).run P w = .ok (.string (s.extract lo hi)) w := by
  subst h1
  subst h2
  rw [run_slice_string_if w t s .i64 .i64 _ _ ht, if_pos ⟨by omega, by omega⟩, if_pos ⟨by omega, by omega⟩]
  simp
/-- A row of one's own stays where nothing that was there has changed. -/
theorem own_below {w w' : World} {base : Nat} {e : TypeId} {size : Nat} {v : Value} {n : Nat} {xs : List Value} (h : w.ownsRow base e size v n xs) (hb : Below w.heap.size w w') : w'.ownsRow base e size v n xs := by
  refine ⟨h.1, ?_⟩
  rcases h.2 with h0 | ⟨g, cap, cur, rfl, h1, hg, h2⟩
  · exact .inl h0
  · exact .inr ⟨g, cap, cur, rfl, h1, (hb.block g (Array.getElem?_eq_some_iff.1 hg).1).trans hg, h2⟩
end Own
end Go.Proofs.Ytfincohdchnniaa
namespace Go.Proofs.Ytfincohdchnniaa
open Go.RowKit Go.WideShapes Go.WideElems Go.ChangeAt Go.ChangeShapes
namespace In
/-- The integers that stand from an address on. -/
def Ints (k : IntKind) (w : World) (a : Option Addr) (l : List Int) : Prop :=
  ∀ i, i < l.length → ∃ b off, a = some ⟨b, off, none⟩ ∧ b < w.heap.size ∧ w.cell? ⟨b, off + i, none⟩ = some (.int k (l.getD i 0))
def IsInts (k : IntKind) (w : World) (v : Value) (l : List Int) : Prop :=
  ∃ a cap, v = .slice a l.length cap ∧ l.length ≤ maxLen ∧ Ints k w a l ∧ (∀ n ∈ l, (Lit.int k n).wf = true) ∧ l.length ≤ cap ∧ cap ≤ maxLen
theorem Ints.below {k : IntKind} {w w' : World} {a : Option Addr} {l : List Int} (h : Ints k w a l) (hb : Below w.heap.size w w') : Ints k w' a l := fun i hi => by
  obtain ⟨b, off, ha, hlt, hc⟩ := h i hi
  exact ⟨b, off, ha, Nat.lt_of_lt_of_le hlt hb.size, (hb.cell (p := ⟨b, off + i, none⟩) hlt).trans hc⟩
theorem cell_addrI {w : World} {a : Addr} {i : Nat} {v : Value} (h : w.cell? (a.add i) = some v) (h0 : ∃ v0, w.cell? (a.add 0) = some v0) : ∃ b off, a = ⟨b, off, none⟩ ∧ b < w.heap.size ∧ w.cell? ⟨b, off + i, none⟩ = some v := by
  obtain ⟨b, off, spot⟩ := a
  obtain ⟨v0, h0⟩ := h0
  have hs : spot = none := by simpa [Addr.add] using World.cell?_spot h0
  subst hs
  refine ⟨b, off, rfl, block_lt_of_cell h0, ?_⟩
  have e : (⟨b, off, none⟩ : Addr).add i = ⟨b, off + i, none⟩ := by unfold Addr.add; split <;> simp_all
  rwa [e] at h
theorem isInts_of {H : Type} {enc : TypeId × Value → H} {P : Program} {t e : TypeId} {k : IntKind} (ht : P.underlying t = some (.slice e)) (he : P.underlying e = some (.int k)) (hc : P.cellsOf e = 1) {W : World} {r : Reach} {b0 : Nat} {v : Value} {d : DataW H} {p : List MemPlace} {base : Nat} {spare held : _}
    (hv : Value.okWide P W r b0 t v) (h : DataW.Trod enc P W base spare held t v d p) : ∃ l, IsInts k W v l := by
  obtain ⟨a0, len, cap, rfl⟩ := okWide_slice ht hv
  obtain ⟨fuel, hf⟩ := h
  rcases open_ints ht he hc hf with ⟨hcs, _⟩ | ⟨x, l, c, ss, hcs, _, hl, hm, hz, _, hcell, hws⟩
  · simp [Value.cells] at hcs
    obtain ⟨rfl, rfl, rfl⟩ := hcs
    exact ⟨[], none, 0, rfl, Nat.zero_le _, fun i hi => absurd hi (Nat.not_lt_zero i), fun s hs => (by cases hs), Nat.le_refl _, Nat.zero_le _⟩
  · simp [Value.cells] at hcs
    obtain ⟨rfl, rfl, rfl⟩ := hcs
    have hlz : len ≤ ss.length := by rw [hz]; split <;> omega
    refine ⟨ss.take len, some x, cap, by rw [List.length_take, Nat.min_eq_left hlz], by rw [List.length_take]; omega, fun i hi => ?_, fun s hs => hws s (List.mem_of_mem_take hs), by rw [List.length_take]; omega, hm⟩
    rw [List.length_take, Nat.min_eq_left hlz] at hi
    obtain ⟨b, off, rfl, hb, hc⟩ := cell_addrI (hcell i (by omega)) ⟨_, hcell 0 (by omega)⟩
    refine ⟨b, off, rfl, hb, ?_⟩
    rw [hc]
    simp [List.getD, hi]
end In
end Go.Proofs.Ytfincohdchnniaa
namespace Go.Proofs.Ytfincohdchnniaa
open Go.RowKit
/-- The first cells of a block that is not frozen. -/
def RowAt (w : World) (g : Nat) (vs : List Value) : Prop := ∃ cur T, w.heap[g]? = some (.cells cur T (0, 0)) ∧ ∀ (i : Nat) (u : Value), vs[i]? = some u → cur[i]? = some u
namespace RowAt
variable {w w' : World} {g : Nat} {vs : List Value}
theorem lt (h : RowAt w g vs) : g < w.heap.size := by
  obtain ⟨cur, T, hg, _⟩ := h
  exact (Array.getElem?_eq_some_iff.1 hg).1
theorem cell (h : RowAt w g vs) {i : Nat} {u : Value} (hi : vs[i]? = some u) : w.cell? ⟨g, i, none⟩ = some u := by
  obtain ⟨cur, T, hg, hc⟩ := h
  simp [World.cell?, hg, hc i u hi]
theorem frozen (h : RowAt w g vs) (i : Nat) : w.frozen? ⟨g, i, none⟩ = false := by
  obtain ⟨cur, T, hg, _⟩ := h
  simp [World.frozen?, hg]
theorem of_block (h : RowAt w g vs) (e : w'.heap[g]? = w.heap[g]?) : RowAt w' g vs := by
  obtain ⟨cur, T, hg, hc⟩ := h
  exact ⟨cur, T, e.trans hg, hc⟩
theorem set (h : RowAt w g vs) (i : Nat) (u : Value) : RowAt (w.setCell ⟨g, i, none⟩ u) g (vs.set i u) := by
  obtain ⟨cur, T, hg, hc⟩ := h
  refine ⟨cur.setIfInBounds i u, T, ?_, fun j x hj => ?_⟩
  · simp [World.setCell, Array.getElem?_modify, hg]
  · rw [List.getElem?_set] at hj
    rw [Array.getElem?_setIfInBounds]
    by_cases e : i = j
    · subst e
      rw [if_pos rfl] at hj ⊢
      split at hj
      · have hb : i < cur.size := (Array.getElem?_eq_some_iff.1 (hc i _ (List.getElem?_eq_getElem ‹_›))).1
        rw [if_pos hb]; exact hj
      · cases hj
    · rw [if_neg e] at hj ⊢
      exact hc j x hj
theorem setOther (h : RowAt w g vs) {a : Addr} (ha : g ≠ a.block) (u : Value) : RowAt (w.setCell a u) g vs := h.of_block (Below.heap_setCell _ _ _ _ ha)
theorem alloc (h : RowAt w g vs) (o : Obj) : RowAt (w.alloc o) g vs := h.of_block (heap_alloc_old w o h.lt)
theorem drew (h : RowAt w g vs) : RowAt w.drew g vs := h
theorem drewN (h : RowAt w g vs) (n : Nat) : RowAt (w.drewN n) g vs := h
theorem below (h : RowAt w g vs) (hb : Below w.heap.size w w') : RowAt w' g vs := h.of_block (hb.block g h.lt)
theorem of_own {base : Nat} {e : TypeId} {size n cap : Nat} (h : w.ownsRow base e size (.slice (some ⟨g, 0, none⟩) n cap) n vs) : RowAt w g vs := by
  rcases h.2 with ⟨h0, _⟩ | ⟨g', cap', cur, hv, _, hg, _, _, _, ht⟩
  · cases h0
  · cases hv
    refine ⟨cur, e, hg, fun i u hu => ?_⟩
    rw [← ht, List.getElem?_take] at hu
    split at hu
    · simpa using hu
    · cases hu
theorem grown {row : Option Nat} (h : RowAt w g vs) (hg : w.grownBy w' row) (hne : some g ≠ row) : RowAt w' g vs := h.of_block (hg.block g h.lt hne)
theorem mono (h : RowAt w g vs) {us : List Value} (hm : ∀ (i : Nat) (u : Value), us[i]? = some u → vs[i]? = some u) : RowAt w g us := by
  obtain ⟨cur, T, hg, hc⟩ := h
  exact ⟨cur, T, hg, fun i u hu => hc i u (hm i u hu)⟩
theorem ints (h : RowAt w g (vs)) (k : IntKind) (l : List Int) (hl : vs = l.map (Value.int k)) : In.Ints k w (some ⟨g, 0, none⟩) l := fun i hi => ⟨g, 0, rfl, h.lt, by
  rw [Nat.zero_add]
  refine h.cell ?_
  rw [hl, List.getElem?_map, List.getElem?_eq_getElem hi, List.getD_eq_getElem?_getD, List.getElem?_eq_getElem hi]; rfl⟩
end RowAt
namespace Own
/-- One element behind a row of one's own, and where the row then lies. -/
theorem lies_one {P : Program} {ops : Array Oper} {rest : List Oper} {o : Oper} {a : Act} {w : World} {Q : Exit → Act → World → Prop} (hgd : o.guard = none) (s x : Operand) (t : TypeId)
    (ho : o.op = .call { callee := .builtin .append, args := #[s, x], argTypes := #[t, t] })
    (base : Nat) (e : TypeId) (i : TypeInfo) (z : Value) (bytes : Nat) (ht : P.underlying t = some (.slice e)) (hi : P.info? e = some i) (hz : i.zero = some z)
    (hsize : i.size = 1) (hby : i.bytes = bytes) (hzs : z.cells.size = 1)
    (v : Value) (n : Nat) (xs : List Value) (hs : a.eval s = v) (ad : Addr) (c : Nat) (u : Value) (hx : a.eval x = .slice (some ad) 1 c) (hown : w.ownsRow base e 1 v n xs)
    (hu : w.cell? ad = some u) (h1 : u.oneCell' = true) (h63 : n + 1 ≤ maxLen) (hbytes : (n + 1) * bytes ≤ 140737488355328) (hbase : base ≤ w.heap.size) (H : Nat) (hH : w.heap.size = H)
    (h : ∀ g cap w', w'.ownsRow base e 1 (.slice (some ⟨g, 0, none⟩) (n + 1) cap) (n + 1) (xs ++ [u]) → w.grownBy w' v.ownBlock → (v.ownBlock = some g ∨ g = H) → g < w'.heap.size → wpList P ops Q rest (a.put o.dst (.slice (some ⟨g, 0, none⟩) (n + 1) cap)) w') : wpList P ops Q (o :: rest) a w :=
  wpList_append_lies w hgd s x t ho base e i z 1 bytes ht hi hz hsize hby hzs (by decide) v n xs hs hown ad 1 c [u] hx rfl
    (fun j u hj => by cases j with
      | zero => simp at hj; subst hj; simpa [Addr.add] using hu
      | succ j => simp at hj) (fun u hw => by simp at hw; subst hw; exact h1) (by decide) h63 hbytes hbase H hH h
/-- One pair behind a row of one's own, and where the row then lies. -/
theorem lies_pair {P : Program} {ops : Array Oper} {rest : List Oper} {o : Oper} {a : Act} {w : World} {Q : Exit → Act → World → Prop} (hgd : o.guard = none) (s x : Operand) (t : TypeId)
    (ho : o.op = .call { callee := .builtin .append, args := #[s, x], argTypes := #[t, t] })
    (base : Nat) (e : TypeId) (i : TypeInfo) (z : Value) (bytes : Nat) (ht : P.underlying t = some (.slice e)) (hi : P.info? e = some i) (hz : i.zero = some z)
    (hsize : i.size = 2) (hby : i.bytes = bytes) (hzs : z.cells.size = 2)
    (v : Value) (n : Nat) (xs : List Value) (hs : a.eval s = v) (ad : Addr) (c : Nat) (u0 u1 : Value) (hx : a.eval x = .slice (some ad) 1 c) (hown : w.ownsRow base e 2 v n xs)
    (hu0 : w.cell? (ad.add 0) = some u0) (hu1 : w.cell? (ad.add 1) = some u1) (h0 : u0.oneCell' = true) (h1 : u1.oneCell' = true) (h63 : n + 1 ≤ maxLen) (hbytes : (n + 1) * bytes ≤ 140737488355328) (hbase : base ≤ w.heap.size) (H : Nat) (hH : w.heap.size = H)
    (h : ∀ g cap w', w'.ownsRow base e 2 (.slice (some ⟨g, 0, none⟩) (n + 1) cap) (n + 1) (xs ++ [u0, u1]) → w.grownBy w' v.ownBlock → (v.ownBlock = some g ∨ g = H) → g < w'.heap.size → wpList P ops Q rest (a.put o.dst (.slice (some ⟨g, 0, none⟩) (n + 1) cap)) w') : wpList P ops Q (o :: rest) a w :=
  wpList_append_lies w hgd s x t ho base e i z 2 bytes ht hi hz hsize hby hzs (by decide) v n xs hs hown ad 1 c [u0, u1] hx rfl
    (fun j u hj => by
      match j, hj with
      | 0, hj => simp at hj; subst hj; exact hu0
      | 1, hj => simp at hj; subst hj; exact hu1
      | j + 2, hj => simp at hj) (fun u hw => by simp at hw; rcases hw with rfl | rfl <;> assumption) (by decide) h63 hbytes hbase H hH h
/-- Two rows that lie apart. -/
def Apart (v u : Value) : Prop := v.ownBlock = none ∨ v.ownBlock ≠ u.ownBlock
theorem Apart.symm {v u : Value} (h : Apart v u) : Apart u v := by
  rcases h with h | h
  · cases hu : u.ownBlock with
    | none => exact .inl hu
    | some k => exact .inr (by rw [h, hu]; simp)
  · exact .inr (Ne.symm h)
theorem Apart.left {v u : Value} {g n cap H : Nat} (h : Apart v u) (hat : v.ownBlock = some g ∨ g = H) (hu : ∀ k, u.ownBlock = some k → k < H) : Apart (.slice (some ⟨g, 0, none⟩) n cap) u := by
  right
  show some g ≠ _
  intro e
  rcases hat with hat | hat
  · rcases h with h | h
    · rw [h] at hat; cases hat
    · exact h (hat.trans e)
  · have := hu g e.symm; omega
theorem Apart.right {v u : Value} {g n cap H : Nat} (h : Apart v u) (hat : u.ownBlock = some g ∨ g = H) (hv : ∀ k, v.ownBlock = some k → k < H) : Apart v (.slice (some ⟨g, 0, none⟩) n cap) := (h.symm.left hat hv).symm
theorem Apart.kept {w w' : World} {base : Nat} {e : TypeId} {size n : Nat} {v u : Value} {xs : List Value} (h : Apart u v) (ho : w.ownsRow base e size u n xs) (hg : w.grownBy w' v.ownBlock) : w'.ownsRow base e size u n xs :=
  ho.kept hg h
end Own
end Go.Proofs.Ytfincohdchnniaa
namespace Go.Proofs.Ytfincohdchnniaa
open Go.RowKit
namespace Gra
open In (Ints IsInts)
section
variable {w : World} {base g n cap : Nat} {e : TypeId} {xs : List Value}
theorem own_set (h : w.ownsRow base e 1 (.slice (some ⟨g, 0, none⟩) n cap) n xs) (i : Nat) (u : Value) : (w.setCell ⟨g, i, none⟩ u).ownsRow base e 1 (.slice (some ⟨g, 0, none⟩) n cap) n (xs.set i u) := by
  refine ⟨by rw [List.length_set]; exact h.1, .inr ?_⟩
  rcases h.2 with ⟨h0, _⟩ | ⟨g', cap', cur, hv, hb, hg, hn, hc, hs, ht⟩
  · cases h0
  · cases hv
    refine ⟨g, cap, cur.setIfInBounds i u, rfl, hb, ?_, hn, hc, by simpa using hs, ?_⟩
    · simp [World.setCell, Array.getElem?_modify, hg]
    · rw [Array.toList_setIfInBounds, List.take_set, ht]
theorem own_short (h : w.ownsRow base e 1 (.slice (some ⟨g, 0, none⟩) n cap) n xs) (k : Nat) (hk : k ≤ n) : w.ownsRow base e 1 (.slice (some ⟨g, 0, none⟩) k cap) k (xs.take k) := by
  have hl := h.1
  refine ⟨by rw [List.length_take]; omega, .inr ?_⟩
  rcases h.2 with ⟨h0, _⟩ | ⟨g', cap', cur, hv, hb, hg, hn, hc, hs, ht⟩
  · cases h0
  · cases hv
    refine ⟨g, cap, cur, rfl, hb, hg, by omega, hc, hs, ?_⟩
    rw [← ht, List.take_take, show min k (n * 1) = k * 1 by omega]
theorem own_puts (vs : List Value) (k : Nat) : ∀ (w : World) (xs : List Value) (o : Nat), k ≤ o → w.ownsRow base e 1 (.slice (some ⟨g, 0, none⟩) n cap) n xs → ∃ ys, (w.setCells g o vs).ownsRow base e 1 (.slice (some ⟨g, 0, none⟩) n cap) n ys ∧ ys.take k = xs.take k := by
  induction vs with
  | nil => exact fun w xs o _ h => ⟨xs, h, rfl⟩
  | cons v vs ih =>
    intro w xs o ho h
    obtain ⟨ys, h1, h2⟩ := ih _ _ (o + 1) (by omega) (own_set h o v)
    refine ⟨ys, h1, h2.trans ?_⟩
    rw [List.take_set, List.set_eq_of_length_le (by rw [List.length_take]; omega)]
theorem own_clear (h : w.ownsRow base e 1 (.slice (some ⟨g, 0, none⟩) n cap) n xs) (k : Nat) (hk : k ≤ n) (vs : List Value) : (w.setCells g k vs).ownsRow base e 1 (.slice (some ⟨g, 0, none⟩) k cap) k (xs.take k) := by
  obtain ⟨ys, h1, h2⟩ := own_puts vs k w xs k (Nat.le_refl _) h
  rw [← h2]
  exact own_short h1 k hk
theorem grw_set (w : World) (g i : Nat) (u : Value) : w.grownBy (w.setCell ⟨g, i, none⟩ u) (some g) :=
  ⟨rfl, rfl, rfl, by simp, fun k _ hne => Below.heap_setCell _ _ _ _ (fun e => hne (by rw [e]))⟩
theorem grw_trans {a b c : World} {g : Nat} (h1 : a.grownBy b (some g)) (h2 : b.grownBy c (some g)) : a.grownBy c (some g) :=
  ⟨h2.os.trans h1.os, h2.tape.trans h1.tape, h2.output.trans h1.output, Nat.le_trans h1.size h2.size, fun k hk hne => (h2.block k (Nat.lt_of_lt_of_le hk h1.size) hne).trans (h1.block k hk hne)⟩
theorem grw_refl (w : World) (g : Nat) : w.grownBy w (some g) := ⟨rfl, rfl, rfl, Nat.le_refl _, fun _ _ _ => rfl⟩
theorem grw_sets (g : Nat) (vs : List Value) : ∀ (w : World) (o : Nat), w.grownBy (w.setCells g o vs) (some g) := by
  induction vs with
  | nil => exact fun w o => grw_refl w g
  | cons v vs ih => exact fun w o => grw_trans (grw_set w g o v) (ih _ _)
end
/-- The least of the first k + 1 numbers. -/
def mnTo (l : List Int) : Nat → Int
  | 0 => l.getD 0 0
  | k + 1 => min (mnTo l k) (l.getD (k + 1) 0)
theorem mnTo_le (l : List Int) (k i : Nat) (h : i ≤ k) : mnTo l k ≤ l.getD i 0 := by
  induction k with
  | zero => obtain rfl : i = 0 := by omega
            exact Int.le_refl _
  | succ k ih =>
    rw [mnTo]
    by_cases e : i = k + 1
    · subst e; omega
    · have := ih (by omega); omega
theorem mnTo_mem (l : List Int) (k : Nat) : ∃ i, i ≤ k ∧ mnTo l k = l.getD i 0 := by
  induction k with
  | zero => exact ⟨0, Nat.le_refl _, rfl⟩
  | succ k ih =>
    obtain ⟨i, hi, e⟩ := ih
    rw [mnTo]
    by_cases h : mnTo l k ≤ l.getD (k + 1) 0
    · exact ⟨i, by omega, by rw [← e]; omega⟩
    · exact ⟨k + 1, Nat.le_refl _, by omega⟩
set_option maxHeartbeats 1000000 in
theorem min_any (a : Option Addr) (cap : Nat) (l : List Int) (h0 : 0 < l.length) (hl : l.length ≤ 4096) (w : World) (ha : Ints .i64 w a l) :
    Calls Try.prog 84 #[.slice a l.length cap] w fun e w' => e = .returned (.int .i64 (mnTo l (l.length - 1))) ∧ w = w' := by
  have HA := Lib.hid ha
  obtain ⟨b, off, rfl, hb, hc⟩ := ha 0 h0
  have HM : Hid (mnTo l 0 = l.getD 0 0) := rfl
  rw [← HM.out, Nat.add_zero] at hc
  have d1 : decide ((l.length : Int) < 1) = false := decide_eq_false (by omega)
  have n0 : (0 : Int) < (l.length : Int) := by omega
  have HL : Hid (0 < l.length) := h0
  clear ha h0
  go_enter Try.func84, Try.ntmps84
  go_wp2
  go_loop [3, 4] (fun v3 v4 => ∃ k : Nat, k < l.length ∧ v4 = .int .i64 ((k + 1 : Nat) : Int) ∧ v3 = .int .i64 (mnTo l k)) (fun _ v4 => l.length - (intOf v4).toNat)
  case atStart => exact ⟨0, HL.out, rfl, rfl⟩
  case round =>
    obtain ⟨k, hk, rfl, rfl⟩ := hrel
    by_cases hlt : k + 1 < l.length
    · obtain ⟨b', off', e', hb', hc'⟩ := HA.out (k + 1) hlt
      cases e'
      have hlt1 : ((k + 1 : Nat) : Int) < (l.length : Int) := by omega
      have HM2 : Hid (mnTo l (k + 1) = min (mnTo l k) (l.getD (k + 1) 0)) := rfl
      obtain ⟨K, hK⟩ : ∃ K : Nat, Hid (k + 1 = K) := ⟨_, rfl⟩
      rw [hK.out] at hlt1 hc' HM2 hlt ⊢
      generalize l.getD K 0 = X at *
      generalize mnTo l k = M at *
      go_wp2
      go_round
      case rel => exact ⟨K, hlt, by go_num, by rw [HM2.out]; congr 1; split <;> omega⟩
      case measure => simp [intOf]; omega
    · have hke : k = l.length - 1 := by omega
      have HV : Hid (mnTo l (l.length - 1) = mnTo l k) := by rw [hke]; rfl
      have hge : ¬ ((k + 1 : Nat) : Int) < (l.length : Int) := by omega
      clear hke hlt
      go_wp2
      go_ret
      exact ⟨by rw [HV.out]; rfl, rfl⟩
/-- A captured number's closure. -/
theorem clos_any (x nd : Int) (c : Nat) (B : Bool) (hB : (x == nd) = B) (w : World) (hc : w.cell? ⟨c, 0, none⟩ = some (.int .i64 nd)) :
    Calls Try.prog 86 #[.int .i64 x, .pointer (some ⟨c, 0, none⟩)] w fun e w' => e = .returned (.bool B) ∧ w = w' := by
  go_enter Try.func86, Try.ntmps86
  go_wp2
  go_ret
  exact ⟨rfl, rfl⟩
set_option maxHeartbeats 1000000 in
/-- Where a number that is there stands first. -/
theorem index_any (a : Option Addr) (cap : Nat) (l : List Int) (hl : l.length ≤ 4096) (nd : Int) (c : Nat) (w : World) (ha : Ints .i64 w a l) (hc : w.cell? ⟨c, 0, none⟩ = some (.int .i64 nd)) (hm : nd ∈ l) :
    Calls Try.prog 90 #[.slice a l.length cap, .func (.func 86) #[] #[.pointer (some ⟨c, 0, none⟩)]] w fun e w' => (∃ i : Nat, e = .returned (.int .i64 (i : Int)) ∧ i < l.length ∧ l.getD i 0 = nd ∧ ∀ j, j < i → l.getD j 0 ≠ nd) ∧ w = w' := by
  have HA := Lib.hid ha
  have HM := Lib.hid hm
  clear ha hm
  go_enter Try.func90, Try.ntmps90
  go_wp2
  go_loop [8] (fun i => ∃ k : Nat, k ≤ l.length ∧ i = .int .i64 k ∧ Hid (∀ j, j < k → l.getD j 0 ≠ nd)) (fun i => l.length - (intOf i).toNat)
  case atStart => exact ⟨0, by omega, rfl, fun j hj => by omega⟩
  case round =>
    obtain ⟨k, hk, rfl, HK⟩ := hrel
    by_cases hlt : k < l.length
    · obtain ⟨b, off, rfl, hbl, hcc⟩ := HA.out k hlt
      have hlt1 : (k : Int) < (l.length : Int) := by omega
      have CC : Hid (∀ (B : Bool), (l.getD k 0 == nd) = B → ∀ (W : World), W.cell? ⟨c, 0, none⟩ = some (.int .i64 nd) → _) := fun B hB W hW => clos_any (l.getD k 0) nd c B hB W hW
      obtain ⟨T, hT⟩ : ∃ T : Int, Hid (l.getD k 0 = T) := ⟨_, rfl⟩
      rw [hT.out] at CC hcc
      by_cases g : T = nd
      · have CC2 := Lib.hid (CC.out true (by simp [g]))
        have HF : Hid (k < l.length ∧ l.getD k 0 = nd) := ⟨hlt, by rw [hT.out, g]⟩
        clear g
        go_wp2_with (go_at_call 86; ((with_reducible refine (CC2.out _ hc).mono ?_); rintro e w1 ⟨rfl, rfl⟩))
        go_ret
        exact ⟨⟨k, rfl, HF.out.1, HF.out.2, HK.out⟩, rfl⟩
      · have CC2 := Lib.hid (CC.out false (beq_eq_false_iff_ne.2 g))
        have HK2 : Hid (∀ j, j < k + 1 → l.getD j 0 ≠ nd) := fun j hj => by
          by_cases e : j = k
          · subst e; rw [hT.out]; exact g
          · exact HK.out j (by omega)
        clear g
        go_wp2_with (go_at_call 86; ((with_reducible refine (CC2.out _ hc).mono ?_); rintro e w1 ⟨rfl, rfl⟩))
        go_round
        case rel => exact ⟨k + 1, by omega, by go_num, HK2⟩
        case measure => simp [intOf]; omega
    · exfalso
      obtain ⟨i, hi, e⟩ := List.getElem_of_mem HM.out
      refine HK.out i (by omega) ?_
      rw [List.getD_eq_getElem?_getD, List.getElem?_eq_getElem hi, e]; rfl
/-- What is kept of the first k numbers. -/
def kp (nd : Int) (l : List Int) : List Int := l.filter (fun x => !(x == nd))
theorem kp_snoc (nd : Int) (l : List Int) (k : Nat) (hk : k < l.length) : kp nd (l.take (k + 1)) = if l.getD k 0 = nd then kp nd (l.take k) else kp nd (l.take k) ++ [l.getD k 0] := by
  have e : l.take (k + 1) = l.take k ++ [l.getD k 0] := by
    rw [List.take_succ_eq_append_getElem hk, List.getD_eq_getElem?_getD, List.getElem?_eq_getElem hk]; rfl
  rw [e]
  generalize l.getD k 0 = x
  unfold kp
  rw [List.filter_append]
  by_cases h : x = nd <;> simp [h]
theorem kp_len (nd : Int) (l : List Int) : (kp nd l).length ≤ l.length := List.length_filter_le _ _
theorem kp_none (nd : Int) (l : List Int) (i : Nat) (hi : i ≤ l.length) (h : ∀ j, j < i → l.getD j 0 ≠ nd) : kp nd (l.take i) = l.take i := by
  unfold kp
  rw [List.filter_eq_self]
  intro x hx
  obtain ⟨j, hj, e⟩ := List.getElem_of_mem hx
  rw [List.length_take] at hj
  have := h j (by omega)
  rw [List.getD_eq_getElem?_getD, List.getElem?_eq_getElem (by omega)] at this
  rw [List.getElem_take] at e
  rw [e] at this
  simpa using this
theorem zero3 (w : World) : (zeroValue 3).run Try.prog w = .ok (.int .i64 0) w := by kernel_rfl
theorem own_cell {w : World} {base g n cap : Nat} {e : TypeId} {l : List Int} (h : w.ownsRow base e 1 (.slice (some ⟨g, 0, none⟩) n cap) n (l.map (Value.int .i64))) {i : Nat} (hi : i < l.length) : w.cell? ⟨g, i, none⟩ = some (.int .i64 (l.getD i 0)) ∧ w.frozen? ⟨g, i, none⟩ = false := by
  have r := RowAt.of_own h
  refine ⟨r.cell ?_, r.frozen i⟩
  rw [List.getElem?_map, List.getElem?_eq_getElem hi, List.getD_eq_getElem?_getD, List.getElem?_eq_getElem hi]; rfl
set_option maxRecDepth 100000 in
set_option maxHeartbeats 2000000 in
/-- slices.DeleteFunc of a row of one's own, a number that is there struck. -/
theorem delete_any (base g cap : Nat) (l : List Int) (hl : l.length ≤ 4096) (nd : Int) (c : Nat) (w : World) (hO : w.ownsRow base 3 1 (.slice (some ⟨g, 0, none⟩) l.length cap) l.length (l.map (Value.int .i64))) (hc : w.cell? ⟨c, 0, none⟩ = some (.int .i64 nd)) (hcg : c ≠ g) (hm : nd ∈ l) :
    Calls Try.prog 85 #[.slice (some ⟨g, 0, none⟩) l.length cap, .func (.func 86) #[] #[.pointer (some ⟨c, 0, none⟩)]] w fun e w' => e = .returned (.slice (some ⟨g, 0, none⟩) (kp nd l).length cap) ∧ Hid (w'.ownsRow base 3 1 (.slice (some ⟨g, 0, none⟩) (kp nd l).length cap) (kp nd l).length ((kp nd l).map (Value.int .i64)) ∧ w.grownBy w' (some g)) := by
  have HO := Lib.hid hO
  have IX := Lib.hid (index_any (some ⟨g, 0, none⟩) cap l hl nd c w ((RowAt.of_own hO).ints .i64 l rfl) hc hm)
  have HC := Lib.hid hc
  have HL : Hid (l.length ≤ 4096) := hl
  have hcap : l.length ≤ cap ∧ cap ≤ maxLen := by
    rcases hO.2 with ⟨h0, _⟩ | ⟨g', cap', cur, hv, hb, hg, hn, hc, hs, ht⟩
    · cases h0
    · cases hv; exact ⟨hn, hc⟩
  have hcap1 := hcap.1
  have hcap2 := hcap.2
  unfold maxLen at hcap2
  clear hO hcap hm hc
  go_enter Try.func85, Try.ntmps85
  go_wp2_with (go_at_call 90; ((with_reducible refine IX.out.mono ?_); rintro e w1 ⟨⟨i, rfl, hi, hin, hib⟩, rfl⟩; have HI := Lib.hid (And.intro hi (And.intro hin hib)); have hi4 : i < 4096 := (by have := HL.out; omega); clear hi hin hib; have di : ((i : Int) == -1) = false := beq_eq_false_iff_ne.2 (by omega)))
  go_loopw [5, 6] (fun v5 v6 wr => ∃ (j : Nat) (Z : List Int), j ≤ l.length ∧ v6 = .int .i64 j ∧ v5 = .int .i64 ((kp nd (l.take j)).length : Int) ∧ Hid (Z.length = l.length ∧ (kp nd (l.take j)).length < j ∧ Z.take (kp nd (l.take j)).length = kp nd (l.take j) ∧ (∀ q, j ≤ q → Z.getD q 0 = l.getD q 0)) ∧ Hid (wr.ownsRow base 3 1 (.slice (some ⟨g, 0, none⟩) l.length cap) l.length (Z.map (Value.int .i64))) ∧ Hid (w.grownBy wr (some g)) ∧ Hid (wr.cell? ⟨c, 0, none⟩ = some (.int .i64 nd))) (fun _ v6 _ => l.length - (intOf v6).toNat)
  case atStart =>
    have h := HI.out
    have h1 := h.1
    have e1 : kp nd (l.take (i + 1)) = l.take i := by
      rw [kp_snoc nd l i h.1, if_pos h.2.1]
      exact kp_none nd l i (by omega) h.2.2
    have e2 : (kp nd (l.take (i + 1))).length = i := by rw [e1, List.length_take]; omega
    exact ⟨i + 1, l, by omega, by go_num, by rw [e2], ⟨rfl, by omega, by rw [e2, e1], fun _ _ => rfl⟩, HO, grw_refl _ _, HC⟩
  case round =>
    obtain ⟨j, Z, hj, rfl, rfl, HZ, HOr, HGr, HCr⟩ := hrel
    by_cases hlt : j < l.length
    · have hlt1 : (j : Int) < (l.length : Int) := by omega
      have hj0 : (0 : Int) ≤ (j : Int) := by omega
      have hz := HZ.out
      obtain ⟨cj, _⟩ := own_cell HOr.out (i := j) (by omega)
      rw [hz.2.2.2 j (Nat.le_refl _)] at cj
      have HK := Lib.hid (kp_snoc nd l j hlt)
      have CC : Hid (∀ (B : Bool), (l.getD j 0 == nd) = B → ∀ (W : World), W.cell? ⟨c, 0, none⟩ = some (.int .i64 nd) → _) := fun B hB W hW => clos_any (l.getD j 0) nd c B hB W hW
      obtain ⟨T, hT⟩ : ∃ T : Int, Hid (l.getD j 0 = T) := ⟨_, rfl⟩
      rw [hT.out] at CC cj HK
      by_cases ge : T = nd
      · have CC2 := Lib.hid (CC.out true (by simp [ge]))
        rw [if_pos ge] at HK
        have HZ2 : Hid (Z.length = l.length ∧ (kp nd (l.take (j + 1))).length < j + 1 ∧ Z.take (kp nd (l.take (j + 1))).length = kp nd (l.take (j + 1)) ∧ (∀ q, j + 1 ≤ q → Z.getD q 0 = l.getD q 0)) := by
          show _ ∧ _
          rw [HK.out]
          exact ⟨hz.1, by omega, hz.2.2.1, fun q hq => hz.2.2.2 q (by omega)⟩
        clear hz ge
        go_wp2_with (go_at_call 86; ((with_reducible refine (CC2.out _ HCr.out).mono ?_); rintro e w1 ⟨rfl, rfl⟩))
        go_roundw
        case rel => exact ⟨j + 1, Z, by omega, by go_num, by rw [HK.out], HZ2, HOr, HGr, HCr⟩
        case measure => simp [intOf]; omega
      · have CC2 := Lib.hid (CC.out false (beq_eq_false_iff_ne.2 ge))
        rw [if_neg ge] at HK
        obtain ⟨K, hK⟩ : ∃ K : Nat, Hid ((kp nd (l.take j)).length = K) := ⟨_, rfl⟩
        have HZ2 : Hid ((Z.set K T).length = l.length ∧ (kp nd (l.take (j + 1))).length < j + 1 ∧ (Z.set K T).take (kp nd (l.take (j + 1))).length = kp nd (l.take (j + 1)) ∧ (∀ q, j + 1 ≤ q → (Z.set K T).getD q 0 = l.getD q 0)) := by
          have hKl := hK.out
          have e3 : (kp nd (l.take j) ++ [T]).length = K + 1 := by rw [List.length_append, hKl]; rfl
          show _ ∧ _
          rw [HK.out, e3]
          refine ⟨by rw [List.length_set]; exact hz.1, by omega, ?_, fun q hq => ?_⟩
          · have hz3 := hz.2.2.1
            rw [hKl] at hz3
            have h3 : K < (Z.set K T).length := by rw [List.length_set]; omega
            rw [List.take_succ_eq_append_getElem h3, List.take_set, List.set_eq_of_length_le (by rw [List.length_take]; omega), hz3]
            simp
          · have h4 : (Z.set K T).getD q 0 = Z.getD q 0 := by
              simp only [List.getD_eq_getElem?_getD]
              rw [List.getElem?_set_ne (by omega)]
            rw [h4]
            exact hz.2.2.2 q (by omega)
        have fK := (RowAt.of_own HOr.out).frozen K
        have cK := (own_cell HOr.out (i := K) (by have := hK.out; omega)).1
        have hK0 : (0 : Int) ≤ (K : Int) := by omega
        have hK1 : (K : Int) < (l.length : Int) := by have := hK.out; omega
        have HL2 : Hid ((kp nd (l.take (j + 1))).length = K + 1) := by show _ = _; rw [HK.out, List.length_append, hK.out]; rfl
        rw [hK.out]
        clear hz ge
        go_wp2_with (go_at_call 86; ((with_reducible refine (CC2.out _ HCr.out).mono ?_); rintro e w1 ⟨rfl, rfl⟩))
        go_roundw
        case rel => exact ⟨j + 1, Z.set K T, by omega, by go_num, by rw [HL2.out]; go_num, HZ2, by rw [List.map_set]; exact own_set HOr.out _ _, grw_trans HGr.out (grw_set _ _ _ _), (World.cell?_setCell_other _ _ _ _ (by intro e; cases e; exact hcg rfl)).trans HCr.out⟩
        case measure => simp [intOf]; omega
    · have hje : j = l.length := by omega
      have hz := HZ.out
      subst hje
      rw [List.take_length] at *
      obtain ⟨K, hK⟩ : ∃ K : Nat, Hid ((kp nd l).length = K) := ⟨_, rfl⟩
      have hKn : K < l.length := by have := hK.out; omega
      rw [hK.out] at hz ⊢
      have hcl : ∀ ty, (Builtin.clear_ #[57] ty #[.slice (some ⟨g, K, none⟩) (l.length - K) (cap - K)]).run Try.prog wr = .ok (.tuple #[]) (wr.setCells g K (List.replicate (l.length - K) (.int .i64 0))) :=
        fun ty => Lib.run_clear_slice wr 57 3 ty (.int .i64 0) Try.underlying57 zero3 rfl rfl g K _ _ (by omega) (fun q hq => by rw [(own_cell HOr.out (i := K + q) (by omega)).1]; rfl) (fun q hq => (RowAt.of_own HOr.out).frozen _)
      have HE : Hid ((wr.setCells g K (List.replicate (l.length - K) (.int .i64 0))).ownsRow base 3 1 (.slice (some ⟨g, 0, none⟩) K cap) K ((kp nd l).map (Value.int .i64)) ∧ w.grownBy (wr.setCells g K (List.replicate (l.length - K) (.int .i64 0))) (some g)) := by
        refine ⟨?_, grw_trans HGr.out (grw_sets _ _ _ _)⟩
        have := own_clear HOr.out K (by omega) (List.replicate (l.length - K) (.int .i64 0))
        rw [← List.map_take, hz.2.2.1] at this
        exact this
      have hK0 : (0 : Int) ≤ (K : Int) := by omega
      have hK1 : (K : Int) ≤ (l.length : Int) := by omega
      have hK2 : (K : Int) ≤ (cap : Int) := by omega
      clear hz
      go_wp2_with (simp only [hcl])
      go_ret
      exact ⟨by rw [hK.out]; rfl, by rw [hK.out]; exact HE⟩
end Gra
end Go.Proofs.Ytfincohdchnniaa
namespace Go.Proofs.Ytfincohdchnniaa
open Go.RowKit
namespace Gra
/-- The pairs that stand from an address on. -/
def Prs (w : World) (a : Option Addr) (l : List (Int × Int)) : Prop :=
  ∀ i, i < l.length → ∃ b off, a = some ⟨b, off, none⟩ ∧ b < w.heap.size ∧ w.cell? ⟨b, off + i * 2, none⟩ = some (.int .i64 (l.getD i (0, 0)).1) ∧ w.cell? ⟨b, off + i * 2 + 1, none⟩ = some (.int .i64 (l.getD i (0, 0)).2)
theorem Prs.below {w w' : World} {a : Option Addr} {l : List (Int × Int)} (h : Prs w a l) (hb : Below w.heap.size w w') : Prs w' a l := fun i hi => by
  obtain ⟨b, off, ha, hlt, hc, hd⟩ := h i hi
  exact ⟨b, off, ha, Nat.lt_of_lt_of_le hlt hb.size, (hb.cell (p := ⟨b, off + i * 2, none⟩) hlt).trans hc, (hb.cell (p := ⟨b, off + i * 2 + 1, none⟩) hlt).trans hd⟩
theorem below2 {w a b : World} (h : Below w.heap.size w a) (h2 : Below a.heap.size a b) : Below w.heap.size w b := h.trans (h2.mono h.size)
theorem below_al {w x : World} (h : Below w.heap.size w x) (o : Obj) : Below w.heap.size w (x.alloc o) := h.alloc h.size o
theorem frz_al (w : World) (o : Obj) (a : Addr) (h : a.block < w.heap.size) : (w.alloc o).drew.frozen? a = w.frozen? a := ((Below.refl w.heap.size w).alloc (Nat.le_refl _) o).drew.frozen h
/-- What a cell holds, in whatever world. -/
def vl (a : Addr) (w : World) : Value := (w.cell? a).getD (.int .i64 0)
theorem vl_eq {a : Addr} {w : World} {v : Value} (h : w.cell? a = some v) : vl a w = v := by unfold vl; rw [h]; rfl
theorem vl_some {a : Addr} {w : World} {v : Value} (h : w.cell? a = some v) : w.cell? a = some (vl a w) := by unfold vl; rw [h]; rfl
theorem cell_ad {w : World} (o : Obj) (a : Addr) (h : a.block < w.heap.size) : (w.alloc o).drew.cell? a = w.cell? a := ((Below.refl w.heap.size w).alloc (Nat.le_refl _) o).drew.cell h
def inW (x n : Int) : Bool := decide (1 ≤ x) && decide (x ≤ n)
theorem inW_yes {x n : Int} (h : inW x n = true) : 1 ≤ x ∧ x ≤ n := by
  unfold inW at h
  rw [Bool.and_eq_true] at h
  exact ⟨of_decide_eq_true h.1, of_decide_eq_true h.2⟩
theorem inW_no {x n : Int} (h : inW x n = false) : ¬ (1 ≤ x ∧ x ≤ n) := fun ⟨h1, h2⟩ => by
  unfold inW at h
  rw [decide_eq_true h1, decide_eq_true h2] at h
  cases h
theorem is_any (g : Nat) (n x : Int) (w : World) (hc : w.cell? ⟨g, 0, none⟩ = some (.int .i64 n)) :
    Calls Try.prog 83 #[.pointer (some ⟨g, 0, none⟩), .int .i64 x] w fun e w' => e = .returned (.bool (inW x n)) ∧ w = w' := by
  have HS : Hid (inW x n = (decide (1 ≤ x) && decide (x ≤ n))) := rfl
  by_cases h1 : 1 ≤ x
  · have d1 : decide (1 ≤ x) = true := decide_eq_true h1
    by_cases h2 : x ≤ n
    · have d2 : decide (x ≤ n) = true := decide_eq_true h2
      have HV : Hid (inW x n = true) := by show _ = _; rw [HS.out, d1, d2]; rfl
      go_enter Try.func83, Try.ntmps83
      go_wp2
      go_ret
      exact ⟨by rw [HV.out]; rfl, rfl⟩
    · have d2 : decide (x ≤ n) = false := decide_eq_false h2
      have HV : Hid (inW x n = false) := by show _ = _; rw [HS.out, d1, d2]; rfl
      go_enter Try.func83, Try.ntmps83
      go_wp2
      go_ret
      exact ⟨by rw [HV.out]; rfl, rfl⟩
  · have d1 : decide (1 ≤ x) = false := decide_eq_false h1
    have HV : Hid (inW x n = false) := by show _ = _; rw [HS.out, d1]; rfl
    go_enter Try.func83, Try.ntmps83
    go_wp2
    go_ret
    exact ⟨by rw [HV.out]; rfl, rfl⟩
def isRow (i : Nat) : Prop := (1 ≤ i ∧ i ≤ 65) ∨ (131 ≤ i ∧ i ≤ 195)
/-- A web: its number of nodes, its rows (what each node needs from cell 1 on, by whom it is needed from cell 131 on), its open needs (from cell 66 on). -/
structure Web (w : World) (B g : Nat) (n : Int) (R : Nat → List Int) (O : Nat → Int) (C : Nat → Value) : Prop where
  row : w.rowIs g 97 196 C
  lo : B ≤ g
  c0 : C 0 = .int .i64 n
  cO : ∀ x, x ≤ 64 → C (66 + x) = .int .i64 (O x)
  own : ∀ i, isRow i → w.ownsRow B 3 1 (C i) (R i).length ((R i).map (Value.int .i64))
  ne : ∀ i, isRow i → (C i).ownBlock ≠ some g
  ap : ∀ i j, isRow i → isRow j → i ≠ j → Own.Apart (C i) (C j)
namespace Web
variable {w w' : World} {B g : Nat} {n : Int} {R : Nat → List Int} {O : Nat → Int} {C : Nat → Value}
theorem below (h : Web w B g n R O C) (hb : Below w.heap.size w w') : Web w' B g n R O C :=
  ⟨h.row.of_block (hb.block g h.row.lt), h.lo, h.c0, h.cO, fun i hi => Own.own_below (h.own i hi) hb, h.ne, h.ap⟩
theorem alloc (h : Web w B g n R O C) (o : Obj) : Web (w.alloc o) B g n R O C := h.below ((Below.refl _ _).alloc (Nat.le_refl _) o)
theorem drew (h : Web w B g n R O C) : Web w.drew B g n R O C := h.below (Below.refl _ _).drew
/-- A row that grew by one, put back into its cell. -/
theorem push (h : Web w B g n R O C) {w1 : World} {i : Nat} (hi : isRow i) {x : Int} {g' cap H : Nat} (hg : w.grownBy w1 (C i).ownBlock) (hH : w.heap.size = H)
    (ho : w1.ownsRow B 3 1 (.slice (some ⟨g', 0, none⟩) ((R i).length + 1) cap) ((R i).length + 1) ((R i).map (Value.int .i64) ++ [.int .i64 x])) (hat : (C i).ownBlock = some g' ∨ g' = H)
    {R' : Nat → List Int} (hR : R' i = R i ++ [x]) (hR2 : ∀ j, isRow j → j ≠ i → R' j = R j) :
    Web (w1.setCell ⟨g, i, none⟩ (.slice (some ⟨g', 0, none⟩) ((R i).length + 1) cap)) B g n R' O (fun j => if j = i then .slice (some ⟨g', 0, none⟩) ((R i).length + 1) cap else C j) := by
  have hgl := h.row.lt
  have hng : g' ≠ g := by
    rcases hat with e | e
    · intro e2; subst e2; exact h.ne i hi e
    · omega
  have hr1 : w1.rowIs g 97 196 C := h.row.of_block (hg.block g hgl (fun e => h.ne i hi e.symm))
  have hl : (R' i).length = (R i).length + 1 := by rw [hR, List.length_append]; rfl
  refine ⟨hr1.set i _, h.lo, ?_, fun x hx => ?_, fun j hj => ?_, fun j hj => ?_, fun j k hj hk hjk => ?_⟩
  · show (if 0 = i then _ else C 0) = _
    rw [if_neg (by unfold isRow at hi; omega)]; exact h.c0
  · show (if 66 + x = i then _ else C (66 + x)) = _
    rw [if_neg (by unfold isRow at hi; omega)]; exact h.cO x hx
  · show World.ownsRow _ _ _ _ (if j = i then _ else C j) _ _
    by_cases e : j = i
    · subst e
      rw [if_pos rfl, hl, hR, List.map_append]
      exact ownsRow_setCell_other ho (by show some g' ≠ some g; simpa using hng) _
    · rw [if_neg e, hR2 j hj e]
      have h1 := Own.Apart.kept (h.ap j i hj hi e) (h.own j hj) hg
      exact ownsRow_setCell_other h1 (h.ne j hj) _
  · show (if j = i then _ else C j).ownBlock ≠ _
    by_cases e : j = i
    · rw [if_pos e]; show some g' ≠ some g; simpa using hng
    · rw [if_neg e]; exact h.ne j hj
  · show Own.Apart (if j = i then _ else C j) (if k = i then _ else C k)
    have lt : ∀ j, isRow j → ∀ q, (C j).ownBlock = some q → q < H := fun j hj q hq => by rw [← hH]; exact ((h.own j hj).lt q hq).2
    by_cases e : j = i
    · subst e
      rw [if_pos rfl, if_neg (fun e => hjk e.symm)]
      exact (h.ap j k hj hk hjk).left hat (lt k hk)
    · rw [if_neg e]
      by_cases e2 : k = i
      · subst e2
        rw [if_pos rfl]
        exact (h.ap j k hj hk hjk).right hat (lt j hj)
      · rw [if_neg e2]; exact h.ap j k hj hk hjk
/-- Another number of open needs. -/
theorem setO (h : Web w B g n R O C) (x : Nat) (hx : x ≤ 64) (v : Int) : Web (w.setCell ⟨g, 66 + x, none⟩ (.int .i64 v)) B g n R (fun y => if y = x then v else O y) (fun j => if j = 66 + x then .int .i64 v else C j) := by
  have nr : ∀ j, isRow j → j ≠ 66 + x := fun j hj e => by unfold isRow at hj; omega
  refine ⟨h.row.set _ _, h.lo, ?_, fun y hy => ?_, fun j hj => ?_, fun j hj => ?_, fun j k hj hk hjk => ?_⟩
  · show (if 0 = 66 + x then _ else C 0) = _
    rw [if_neg (by omega)]; exact h.c0
  · show (if 66 + y = 66 + x then _ else C (66 + y)) = .int .i64 (if y = x then v else O y)
    by_cases e : y = x
    · rw [if_pos (by omega), if_pos e]
    · rw [if_neg (by omega), if_neg e]; exact h.cO y hy
  · show World.ownsRow _ _ _ _ (if j = 66 + x then _ else C j) _ _
    rw [if_neg (nr j hj)]
    exact ownsRow_setCell_other (h.own j hj) (h.ne j hj) _
  · show (if j = 66 + x then _ else C j).ownBlock ≠ _
    rw [if_neg (nr j hj)]; exact h.ne j hj
  · show Own.Apart (if j = 66 + x then _ else C j) (if k = 66 + x then _ else C k)
    rw [if_neg (nr j hj), if_neg (nr k hk)]; exact h.ap j k hj hk hjk
theorem cell (h : Web w B g n R O C) {i : Nat} (hi : i < 196) : w.cell? ⟨g, i, none⟩ = some (C i) := h.row.cell hi
theorem cell0 (h : Web w B g n R O C) : w.cell? ⟨g, 0, none⟩ = some (.int .i64 n) := by rw [h.cell (by decide), h.c0]
theorem congr (h : Web w B g n R O C) {R' : Nat → List Int} {O' : Nat → Int} (hR : ∀ i, isRow i → R' i = R i) (hO : ∀ x, x ≤ 64 → O' x = O x) : Web w B g n R' O' C :=
  ⟨h.row, h.lo, h.c0, fun x hx => by rw [hO x hx]; exact h.cO x hx, fun i hi => by rw [hR i hi]; exact h.own i hi, h.ne, h.ap⟩
end Web
theorem push_step {W1 w2 : World} {B g i gg cap : Nat} {n x : Int} {R : Nat → List Int} {O : Nat → Int} {C : Nat → Value} {o : Obj} {V : Value} (h : Web W1 B g n R O C) (hr : isRow i) (hV : C i = V) (hg : (W1.alloc o).drew.grownBy w2 V.ownBlock)
    (ho : w2.ownsRow B 3 1 (.slice (some ⟨gg, 0, none⟩) ((R i).length + 1) cap) ((R i).length + 1) ((R i).map (Value.int .i64) ++ [.int .i64 x])) (hat : V.ownBlock = some gg ∨ gg = W1.heap.size + 1) :
    ∃ C2, Web (w2.setCell ⟨g, i, none⟩ (.slice (some ⟨gg, 0, none⟩) ((R i).length + 1) cap)) B g n (fun j => if j = i then R j ++ [x] else R j) O C2 ∧ ∀ j, j ≠ i → C2 j = C j := by
  subst hV
  exact ⟨_, ((h.alloc o).drew).push hr (H := W1.heap.size + 1) hg (by simp) ho hat (by rw [if_pos rfl]) (fun j _ hj => by rw [if_neg hj]), fun j hj => by rw [if_neg hj]⟩
theorem push_below {w W1 w2 : World} {V : Value} {m : Nat} {xs : List Value} {o : Obj} (hB : Below w.heap.size w W1) (ho : W1.ownsRow w.heap.size 3 1 V m xs) (hg : (W1.alloc o).drew.grownBy w2 V.ownBlock) : Below w.heap.size w w2 :=
  ((below_al hB o).drew).grown hg (below_al hB o).size (Own.own_block ho (Nat.le_refl _))
theorem push_cell {W1 w2 : World} {V : Value} {G i : Nat} {v : Value} {o : Obj} (hG : G < W1.heap.size) (hc : W1.cell? ⟨G, i, none⟩ = some v) (hg : (W1.alloc o).drew.grownBy w2 V.ownBlock) (hne : V.ownBlock ≠ some G) : w2.cell? ⟨G, i, none⟩ = some v :=
  (hg.cell_far ⟨G, i, none⟩ (by simp; omega) (Ne.symm hne)).trans ((cell_ad _ ⟨G, i, none⟩ hG).trans hc)
theorem push_frozen {W1 w2 : World} {V : Value} {G i : Nat} {o : Obj} (hG : G < W1.heap.size) (hc : W1.frozen? ⟨G, i, none⟩ = false) (hg : (W1.alloc o).drew.grownBy w2 V.ownBlock) (hne : V.ownBlock ≠ some G) : w2.frozen? ⟨G, i, none⟩ = false :=
  (hg.frozen_far ⟨G, i, none⟩ (by simp; omega) (Ne.symm hne)).trans ((frz_al W1 _ ⟨G, i, none⟩ hG).trans hc)
/-- In the middle of a round of `made`. -/
def Mid (w : World) (n : Int) (R : Nat → List Int) (O : Nat → Int) (q G X Y : Nat) (wx : World) : Prop :=
  ∃ C, Web wx w.heap.size w.heap.size n R O C ∧ (isRow q → (C q).ownBlock ≠ some G) ∧ Below w.heap.size w wx ∧ G < wx.heap.size ∧ wx.cell? ⟨G, 0, none⟩ = some (.int .i64 (X : Int)) ∧ wx.cell? ⟨G, 1, none⟩ = some (.int .i64 (Y : Int))
theorem mid_step {w W1 w2 : World} {i gg cap q G X Y : Nat} {n x : Int} {R : Nat → List Int} {O : Nat → Int} {C : Nat → Value} {o : Obj} {V : Value} (h : Web W1 w.heap.size w.heap.size n R O C) (hr : isRow i) (hV : C i = V) (hq : q ≠ i) (hCq : isRow q → (C q).ownBlock ≠ some G) (hB : Below w.heap.size w W1)
    (ho1 : W1.ownsRow w.heap.size 3 1 V (R i).length ((R i).map (Value.int .i64)))
    (hg : (W1.alloc o).drew.grownBy w2 V.ownBlock)
    (ho : w2.ownsRow w.heap.size 3 1 (.slice (some ⟨gg, 0, none⟩) ((R i).length + 1) cap) ((R i).length + 1) ((R i).map (Value.int .i64) ++ [.int .i64 x])) (hat : V.ownBlock = some gg ∨ gg = W1.heap.size + 1)
    (hG : G < W1.heap.size) (hne : w.heap.size ≠ G) (k0 : w2.cell? ⟨G, 0, none⟩ = some (.int .i64 (X : Int))) (k1 : w2.cell? ⟨G, 1, none⟩ = some (.int .i64 (Y : Int))) :
    Mid w n (fun j => if j = i then R j ++ [x] else R j) O q G X Y (w2.setCell ⟨w.heap.size, i, none⟩ (.slice (some ⟨gg, 0, none⟩) ((R i).length + 1) cap)) := by
  obtain ⟨C2, h1, h2⟩ := push_step h hr hV hg ho hat
  refine ⟨C2, h1, fun hqr => by rw [h2 q hq]; exact hCq hqr, (push_below hB ho1 hg).setCell (Nat.le_refl _) _, ?_, ?_, ?_⟩
  · have := hg.size
    simp at this
    simp [World.setCell]
    omega
  · exact (World.cell?_setCell_other _ _ _ _ (by intro e; cases e; exact hne rfl)).trans k0
  · exact (World.cell?_setCell_other _ _ _ _ (by intro e; cases e; exact hne rfl)).trans k1
theorem wrapEq (x : Int) : IntKind.i64.wrap x = wrap64 x := by rw [IntKind.wrap_i64]; unfold wrap64; omega
/-- A web of no needs, as cells. -/
def zF (n : Int) (i : Nat) : Value := if i = 0 then .int .i64 n else if 66 ≤ i ∧ i ≤ 130 then .int .i64 0 else .slice none 0 0
def zW (n : Int) : Array Value := ((List.range 196).map (zF n)).toArray
theorem zero48 (w : World) : (zeroValue 97).run Try.prog w = .ok (.agg (zW 0)) w := by kernel_rfl
theorem zW_set (n : Int) : (zW 0).setIfInBounds 0 (.int .i64 n) = zW n := by kernel_rfl
theorem zW_size (n : Int) : (zW n).size = 196 := by simp [zW]
/-- What a node needs; by whom it is needed. -/
def ndsF (E : List (Int × Int)) (x : Int) : List Int := (E.filter fun e => e.1 == x).map (·.2)
def usrF (E : List (Int × Int)) (x : Int) : List Int := (E.filter fun e => e.2 == x).map (·.1)
def RF (E : List (Int × Int)) (i : Nat) : List Int := if i ≤ 65 then ndsF E ((i : Int) - 1) else usrF E ((i : Int) - 131)
def OF (E : List (Int × Int)) (x : Nat) : Int := ((ndsF E (x : Int)).length : Int)
theorem ndsF_snoc (E : List (Int × Int)) (p q x : Int) : ndsF (E ++ [(p, q)]) x = if p = x then ndsF E x ++ [q] else ndsF E x := by
  unfold ndsF
  rw [List.filter_append, List.map_append]
  by_cases h : p = x <;> simp [h]
theorem usrF_snoc (E : List (Int × Int)) (p q x : Int) : usrF (E ++ [(p, q)]) x = if q = x then usrF E x ++ [p] else usrF E x := by
  unfold usrF
  rw [List.filter_append, List.map_append]
  by_cases h : q = x <;> simp [h]
theorem ndsF_len (E : List (Int × Int)) (x : Int) : (ndsF E x).length ≤ E.length := by
  unfold ndsF; rw [List.length_map]; exact List.length_filter_le _ _
theorem usrF_len (E : List (Int × Int)) (x : Int) : (usrF E x).length ≤ E.length := by
  unfold usrF; rw [List.length_map]; exact List.length_filter_le _ _
theorem RF_len (E : List (Int × Int)) (i : Nat) : (RF E i).length ≤ E.length := by
  unfold RF; split
  · exact ndsF_len _ _
  · exact usrF_len _ _
theorem web_new (n : Int) (w : World) : Web (w.alloc (.cells (zW n) 97)) w.heap.size w.heap.size n (RF []) (OF []) (zF n) := by
  have hz : ∀ i, isRow i → zF n i = .slice none 0 0 := fun i hi => by
    unfold isRow at hi; unfold zF
    rw [if_neg (by omega), if_neg (by omega)]
  have hr : ∀ i, RF [] i = [] := fun i => by unfold RF; split <;> rfl
  refine ⟨⟨zW n, ?_, zW_size n, fun i hi => by simp [zW, hi]⟩, Nat.le_refl _, rfl, fun x hx => ?_, fun i hi => ?_, fun i hi => ?_, fun i j hi hj hij => ?_⟩
  · exact heap_alloc_new w _
  · unfold zF; rw [if_neg (by omega), if_pos (by omega)]; rfl
  · rw [hz i hi, hr i]; exact World.ownsRow_nil _ _ _ _
  · rw [hz i hi]; simp [Value.ownBlock]
  · rw [hz i hi]; exact .inl rfl
theorem RF_step (E : List (Int × Int)) (X Y : Nat) (hX : X ≤ 64) (hY : Y ≤ 64) (i : Nat) (_hi : isRow i) :
    RF (E ++ [((X : Int), (Y : Int))]) i = (if i = 131 + Y then (if i = 1 + X then RF E i ++ [(Y : Int)] else RF E i) ++ [(X : Int)] else (if i = 1 + X then RF E i ++ [(Y : Int)] else RF E i)) := by
  unfold RF
  by_cases h : i ≤ 65
  · rw [if_pos h, if_pos h, if_neg (show ¬ i = 131 + Y by omega), ndsF_snoc]
    by_cases e : i = 1 + X
    · rw [if_pos e, if_pos (by omega)]
    · rw [if_neg e, if_neg (by omega)]
  · rw [if_neg h, if_neg h, if_neg (show ¬ i = 1 + X by omega), usrF_snoc]
    by_cases e : i = 131 + Y
    · rw [if_pos e, if_pos (by omega)]
    · rw [if_neg e, if_neg (by omega)]
theorem OF_step (E : List (Int × Int)) (X Y : Nat) (x : Nat) : OF (E ++ [((X : Int), (Y : Int))]) x = if x = X then OF E X + 1 else OF E x := by
  unfold OF
  rw [ndsF_snoc]
  by_cases e : x = X
  · subst e
    rw [if_pos rfl, if_pos rfl, List.length_append]; simp
  · rw [if_neg (by omega), if_neg e]
/-- Whether nodes and needs may be. -/
def Good (n : Int) (l : List (Int × Int)) : Prop := 0 ≤ n ∧ n ≤ 64 ∧ l.length ≤ 256 ∧ ∀ j, j < l.length → inW (l.getD j (0, 0)).1 n = true ∧ inW (l.getD j (0, 0)).2 n = true
def MadeOut (n : Int) (l : List (Int × Int)) (w : World) (e : Ending) (w' : World) : Prop :=
  Below w.heap.size w w' ∧ ((Good n l ∧ e = .returned (.pointer (some ⟨w.heap.size, 0, none⟩)) ∧ ∃ C, Web w' w.heap.size w.heap.size n (RF l) (OF l) C) ∨ (¬ Good n l ∧ e = .returned (.pointer none)))
theorem take_snoc (l : List (Int × Int)) (k : Nat) (h : k < l.length) : l.take (k + 1) = l.take k ++ [((l.getD k (0, 0)).1, (l.getD k (0, 0)).2)] := by
  rw [List.take_succ_eq_append_getElem h, List.getD_eq_getElem?_getD, List.getElem?_eq_getElem h]; rfl
theorem info3 : (Try.prog.info? 3).map (fun i => (i.zero, i.size, i.bytes)) = some (some (.int .i64 0), 1, 8) := by kernel_rfl
theorem info_parts {P : Program} {e : TypeId} {z : Value} {n b : Nat} (h : (P.info? e).map (fun i => (i.zero, i.size, i.bytes)) = some (some z, n, b)) : ∃ i, P.info? e = some i ∧ i.zero = some z ∧ i.size = n ∧ i.bytes = b := by
  cases hi : P.info? e with
  | none => rw [hi] at h; cases h
  | some i => rw [hi] at h; simp at h; exact ⟨i, rfl, h.1, h.2.1, h.2.2⟩
end Gra
end Go.Proofs.Ytfincohdchnniaa
namespace Go.Proofs.Ytfincohdchnniaa
open Go.RowKit
namespace Gra
set_option maxRecDepth 100000 in
set_option maxHeartbeats 4000000 in
theorem made_yes (n : Int) (a : Option Addr) (cap : Nat) (l : List (Int × Int)) (hn0 : 0 ≤ n) (hn : n ≤ 64) (hl : l.length ≤ 256) (w : World) (ha : Prs w a l) :
    Calls Try.prog 77 #[.int .i64 n, .slice a l.length cap] w (MadeOut n l w) := by
  have HA := Lib.hid ha
  have d1 : decide (n < 0) = false := decide_eq_false (by omega)
  have d2 : decide (64 < n) = false := decide_eq_false (by omega)
  have d3 : decide ((256 : Int) < (l.length : Int)) = false := decide_eq_false (by omega)
  have HN : Hid (0 ≤ n ∧ n ≤ 64 ∧ l.length ≤ 256) := ⟨hn0, hn, hl⟩
  obtain ⟨i0, hi, hz0, hz1, hz2⟩ := info_parts info3
  have HW := Lib.hid (web_new n w)
  have HBW : Hid (Below w.heap.size w (w.alloc (.cells (zW n) 97))) := (Below.refl _ _).alloc (Nat.le_refl _) _
  clear ha
  have hB := zero48
  have hZ := zW_size n
  have hS := zW_set n
  have hNe : ¬ zW 0 = #[] := fun e => by have := congrArg Array.size e; rw [zW_size] at this; cases this
  generalize zW n = Z at *
  generalize zW 0 = Z0 at *
  go_enter Try.func77, Try.ntmps77
  go_wp2
  clear hB hZ hS hNe
  go_loopw [24] (fun v24 wr => ∃ (k : Nat) (C : Nat → Value), k ≤ l.length ∧ v24 = .int .i64 k ∧ Hid (∀ j, j < k → inW (l.getD j (0, 0)).1 n = true ∧ inW (l.getD j (0, 0)).2 n = true) ∧ Hid (Web wr w.heap.size w.heap.size n (RF (l.take k)) (OF (l.take k)) C) ∧ Hid (Below w.heap.size w wr)) (fun v24 _ => l.length - (intOf v24).toNat)
  case atStart => exact ⟨0, _, by omega, rfl, fun j hj => by omega, HW, HBW⟩
  case round =>
    obtain ⟨k, C, hk, rfl, HV, HWr, HB⟩ := hrel
    by_cases hlt : k < l.length
    · have hx := Prs.below HA.out HB.out
      obtain ⟨b, off, ea, hb, c0, c1⟩ := hx k hlt
      rw [ea]
      replace ea := Lib.hid ea
      clear hx
      have hlt1 : (k : Int) < (l.length : Int) := by omega
      have hk0 : (0 : Int) ≤ (k : Int) := by omega
      have HT := Lib.hid (take_snoc l k hlt)
      have HNO : Hid (¬ (inW (l.getD k (0, 0)).1 n = true ∧ inW (l.getD k (0, 0)).2 n = true) → ¬ Good n l) := fun h hg => h (hg.2.2.2 k hlt)
      have HYE : Hid ((inW (l.getD k (0, 0)).1 n = true ∧ inW (l.getD k (0, 0)).2 n = true) → ∀ j, j < k + 1 → inW (l.getD j (0, 0)).1 n = true ∧ inW (l.getD j (0, 0)).2 n = true) := fun h j hj => by
        by_cases e : j = k
        · subst e; exact h
        · exact HV.out j (by omega)
      obtain ⟨p, hp⟩ : ∃ A, Hid ((l.getD k (0, 0)).1 = A) := ⟨_, rfl⟩
      obtain ⟨q, hq⟩ : ∃ A, Hid ((l.getD k (0, 0)).2 = A) := ⟨_, rfl⟩
      rw [hp.out] at c0 HNO HYE HT
      rw [hq.out] at c1 HNO HYE HT
      have gl : w.heap.size < wr.heap.size := HWr.out.row.lt
      cases hp1 : inW p n
      · have HNO2 := Lib.hid (HNO.out (fun h => by rw [hp1] at h; cases h.1))
        have C1 : Hid (∀ W, W.cell? ⟨w.heap.size, 0, none⟩ = some (.int .i64 n) → Calls Try.prog 83 #[.pointer (some ⟨w.heap.size, 0, none⟩), .int .i64 p] W fun e w' => e = .returned (.bool false) ∧ W = w') := fun W h => by have := is_any w.heap.size n p W h; rwa [hp1] at this
        clear HT HYE
        go_wp2_with (go_at_call 83; ((with_reducible refine (C1.out _ (HWr.out.alloc _).cell0).mono ?_); rintro e w1 ⟨rfl, rfl⟩))
        go_ret
        exact ⟨below_al HB.out _, .inr ⟨HNO2.out, rfl⟩⟩
      · cases hq1 : inW q n
        · have HNO2 := Lib.hid (HNO.out (fun h => by rw [hq1] at h; cases h.2))
          have C1 : Hid (∀ W, W.cell? ⟨w.heap.size, 0, none⟩ = some (.int .i64 n) → Calls Try.prog 83 #[.pointer (some ⟨w.heap.size, 0, none⟩), .int .i64 p] W fun e w' => e = .returned (.bool true) ∧ W = w') := fun W h => by have := is_any w.heap.size n p W h; rwa [hp1] at this
          have C2 : Hid (∀ W, W.cell? ⟨w.heap.size, 0, none⟩ = some (.int .i64 n) → Calls Try.prog 83 #[.pointer (some ⟨w.heap.size, 0, none⟩), .int .i64 q] W fun e w' => e = .returned (.bool false) ∧ W = w') := fun W h => by have := is_any w.heap.size n q W h; rwa [hq1] at this
          clear HT HYE
          go_wp2_with (go_at_call 83; ((first | (with_reducible refine (C1.out _ (HWr.out.alloc _).cell0).mono ?_) | (with_reducible refine (C2.out _ (HWr.out.alloc _).cell0).mono ?_)); rintro e w1 ⟨rfl, rfl⟩))
          go_ret
          exact ⟨below_al HB.out _, .inr ⟨HNO2.out, rfl⟩⟩
        · have HY2 := Lib.hid (HYE.out ⟨hp1, hq1⟩)
          have bp := inW_yes hp1
          have bq := inW_yes hq1
          have hn64 := HN.out.2.1
          obtain ⟨X, hX⟩ : ∃ X : Nat, p = (X : Int) := ⟨p.toNat, by omega⟩
          obtain ⟨Y, hY⟩ : ∃ Y : Nat, q = (Y : Int) := ⟨q.toNat, by omega⟩
          subst hX
          subst hY
          have C1 : Hid (∀ W, W.cell? ⟨w.heap.size, 0, none⟩ = some (.int .i64 n) → Calls Try.prog 83 #[.pointer (some ⟨w.heap.size, 0, none⟩), .int .i64 (X : Int)] W fun e w' => e = .returned (.bool true) ∧ W = w') := fun W h => by have := is_any w.heap.size n (X : Int) W h; rwa [hp1] at this
          have C2 : Hid (∀ W, W.cell? ⟨w.heap.size, 0, none⟩ = some (.int .i64 n) → Calls Try.prog 83 #[.pointer (some ⟨w.heap.size, 0, none⟩), .int .i64 (Y : Int)] W fun e w' => e = .returned (.bool true) ∧ W = w') := fun W h => by have := is_any w.heap.size n (Y : Int) W h; rwa [hq1] at this
          have hX0 : (0 : Int) ≤ (X : Int) := by omega
          have hX1 : (X : Int) < 65 := by omega
          have hY0 : (0 : Int) ≤ (Y : Int) := by omega
          have hY1 : (Y : Int) < 65 := by omega
          clear hn64 bp bq
          go_wp2_with (go_at_call 83; ((first | (with_reducible refine (C1.out _ (HWr.out.alloc _).cell0).mono ?_) | (with_reducible refine (C2.out _ (HWr.out.alloc _).cell0).mono ?_)); rintro e w1 ⟨rfl, rfl⟩))
          have kk : (wr.alloc (.cells #[.int .i64 (X : Int), .int .i64 (Y : Int)] 46)).cell? ⟨wr.heap.size, 0, none⟩ = some (.int .i64 (X : Int)) ∧ (wr.alloc (.cells #[.int .i64 (X : Int), .int .i64 (Y : Int)] 46)).cell? ⟨wr.heap.size, 1, none⟩ = some (.int .i64 (Y : Int)) := ⟨by simp, by simp⟩
          have HW1 := Lib.hid (HWr.out.alloc (.cells #[.int .i64 (X : Int), .int .i64 (Y : Int)] 46))
          have HB1 := Lib.hid (below_al HB.out (.cells #[.int .i64 (X : Int), .int .i64 (Y : Int)] 46))
          have hg7W : wr.heap.size < (wr.alloc (.cells #[.int .i64 (X : Int), .int .i64 (Y : Int)] 46)).heap.size := by simp
          have hg7 : w.heap.size ≠ wr.heap.size := Nat.ne_of_lt gl
          have hr1 : isRow (1 + X) := by unfold isRow; omega
          have hr2 : isRow (131 + Y) := by unfold isRow; omega
          have hv7 : (C (1 + X)).ownBlock ≠ some wr.heap.size := fun e => by have := ((HWr.out.own (1 + X) hr1).lt _ e).2; omega
          have HU7 : Hid (isRow (131 + Y) → (C (131 + Y)).ownBlock ≠ some wr.heap.size) := fun hr2 e => by have := ((HWr.out.own (131 + Y) hr2).lt _ e).2; omega
          clear gl C1 C2 HWr HB
          generalize wr.heap.size = G7 at *
          generalize wr.alloc (.cells #[.int .i64 (X : Int), .int .i64 (Y : Int)] 46) = W1 at *
          obtain ⟨k0, k1⟩ := kk
          obtain ⟨V, hV⟩ : ∃ V, Hid (C (1 + X) = V) := ⟨_, rfl⟩
          have kg := HW1.out.cell (i := 1 + X) (by omega)
          have fg := HW1.out.row.frozen (1 + X)
          have HO := Lib.hid (HW1.out.own (1 + X) hr1)
          have hvg := HW1.out.ne (1 + X) hr1
          rw [hV.out] at HO hvg hv7 kg
          have hgW := HW1.out.row.lt
          have HRL : Hid (∀ i, (RF (l.take k) i).length ≤ 256) := fun i => Nat.le_trans (RF_len _ _) (by rw [List.length_take]; have := HN.out.2.2; omega)
          go_cut [] (fun wx => Hid (Mid w n (fun j => if j = 1 + X then RF (l.take k) j ++ [(Y : Int)] else RF (l.take k) j) (OF (l.take k)) (131 + Y) G7 X Y wx))
          case first =>
            go_region_law ((refine step_append_lies _ (by rfl) _ _ _ (by rfl) w.heap.size 3 i0 _ 1 8 Try.underlying57 hi hz0 hz1 hz2 rfl (by omega) V _ _ (by rfl) ((HO.out.alloc _).drew) ⟨W1.heap.size, 0, none⟩ 1 1 [.int .i64 (Y : Int)] (by rfl) (by rfl) (World.news_of_block (cs := #[.int .i64 (Y : Int)]) (t := 3) (fr := (0, 0)) (heap_alloc_new W1 _)) (by simp [Value.oneCell']) (by omega) (by have := HRL.out (1 + X); unfold maxLen; omega) (by have := HRL.out (1 + X); omega) (by have := HB1.out.size; simp; omega) (W1.heap.size + 1) (by simp) ?_; intro gg cap9 w2 hown2 hgrow2 hat2 hlt2; have f2 := push_frozen hgW fg hgrow2 hvg; have kx2 := push_cell hg7W k0 hgrow2 hv7; have ky2 := push_cell hg7W k1 hgrow2 hv7; have kv2 := push_cell hgW kg hgrow2 hvg))
            all_goals (go_wp2_with fail; go_meet; exact mid_step HW1.out hr1 hV.out (by omega) HU7.out HB1.out HO.out hgrow2 hown2 hat2 hg7W hg7 kx2 ky2)
          case rest =>
            obtain ⟨C2, HW2, HU2, HB2, hg72, kx2, ky2⟩ := hcut
            replace HW2 := Lib.hid HW2
            replace HB2 := Lib.hid HB2
            have hU2 := HU2 hr2
            clear HW1 HB1 HO hV kg fg hvg hv7 hgW k0 k1 hg7W HU2 HU7 V
            obtain ⟨R2, hR2⟩ : ∃ R2, Hid ((fun j => if j = 1 + X then RF (l.take k) j ++ [(Y : Int)] else RF (l.take k) j) = R2) := ⟨_, rfl⟩
            rw [hR2.out] at HW2
            obtain ⟨U, hU⟩ : ∃ V, Hid (C2 (131 + Y) = V) := ⟨_, rfl⟩
            have ku := HW2.out.cell (i := 131 + Y) (by omega)
            have fu := HW2.out.row.frozen (131 + Y)
            have HO2 := Lib.hid (HW2.out.own (131 + Y) hr2)
            have hug := HW2.out.ne (131 + Y) hr2
            rw [hU.out] at HO2 hug hU2 ku
            have hgW2 := HW2.out.row.lt
            have HRL2 : Hid ((R2 (131 + Y)).length ≤ 257) := by
              rw [← hR2.out]
              have := HRL.out (131 + Y)
              show (if 131 + Y = 1 + X then _ else _ : List Int).length ≤ 257
              split
              · rw [List.length_append]; simp; omega
              · omega
            go_wp2
            go_cut [] (fun wx => Hid (Mid w n (fun j => if j = 131 + Y then R2 j ++ [(X : Int)] else R2 j) (OF (l.take k)) 0 G7 X Y wx))
            case first =>
              go_region_law ((refine step_append_lies _ (by rfl) _ _ _ (by rfl) w.heap.size 3 i0 _ 1 8 Try.underlying57 hi hz0 hz1 hz2 rfl (by omega) U _ _ (by rfl) ((HO2.out.alloc _).drew) ⟨wc.heap.size, 0, none⟩ 1 1 [.int .i64 (X : Int)] (by rfl) (by rfl) (World.news_of_block (cs := #[.int .i64 (X : Int)]) (t := 3) (fr := (0, 0)) (heap_alloc_new wc _)) (by simp [Value.oneCell']) (by omega) (by have := HRL2.out; unfold maxLen; omega) (by have := HRL2.out; omega) (by have := HB2.out.size; simp; omega) (wc.heap.size + 1) (by simp) ?_; intro gg cap9 w2 hown2 hgrow2 hat2 hlt2; have f3 := push_frozen hgW2 fu hgrow2 hug; have kx3 := push_cell hg72 kx2 hgrow2 hU2; have ky3 := push_cell hg72 ky2 hgrow2 hU2; have kv3 := push_cell hgW2 ku hgrow2 hug))
              all_goals (go_wp2_with fail; go_meet; exact mid_step HW2.out hr2 hU.out (by omega) (fun h => by unfold isRow at h; omega) HB2.out HO2.out hgrow2 hown2 hat2 hg72 hg7 kx3 ky3)
            case rest =>
              obtain ⟨C3, HW3, _, HB3, hg73, kx3, ky3⟩ := hcut
              replace HW3 := Lib.hid HW3
              replace HB3 := Lib.hid HB3
              clear HW2 HB2 HO2 hU ku fu hug hU2 hgW2 kx2 ky2 hg72 ky3 U
              have ko := HW3.out.cell (i := 66 + X) (by omega)
              rw [HW3.out.cO X (by omega)] at ko
              have fo := HW3.out.row.frozen (66 + X)
              have hO1 : OF (l.take k) X ≤ 256 ∧ 0 ≤ OF (l.take k) X := by
                unfold OF
                have h1 := ndsF_len (l.take k) (X : Int)
                rw [List.length_take] at h1
                have := HN.out.2.2
                omega
              obtain ⟨T, hT⟩ : ∃ T : Int, Hid (OF (l.take k) X = T) := ⟨_, rfl⟩
              rw [hT.out] at ko hO1
              obtain ⟨T2, wT, hT2⟩ : ∃ A : Int, wrap64 (T + 1) = A ∧ Hid (A = OF (l.take k) X + 1) := ⟨T + 1, by unfold wrap64; omega, by rw [hT.out]; rfl⟩
              have wT3 : IntKind.i64.wrap (T + 1) = T2 := by rw [wrapEq]; exact wT
              clear hO1
              go_wp2
              go_region
              go_wp2
              go_roundw
              case rel =>
                have HW4 := (HW3.out.setO X (by omega) T2).drew
                refine ⟨k + 1, _, by omega, by go_num, HY2, HW4.congr (fun i hi => ?_) (fun x _ => ?_), (HB3.out.setCell (Nat.le_refl _) _).drew⟩
                · rw [HT.out, RF_step _ X Y (by omega) (by omega) i hi, ← hR2.out]
                · rw [HT.out, OF_step, hT2.out]
              case measure => simp [intOf]; omega
    · have hke : k = l.length := by omega
      have HE : Hid (MadeOut n l w (.returned (.pointer (some ⟨w.heap.size, 0, none⟩))) wr) := by
        refine ⟨HB.out, .inl ⟨⟨HN.out.1, HN.out.2.1, HN.out.2.2, ?_⟩, rfl, C, ?_⟩⟩
        · rw [← hke]; exact HV.out
        · have := HWr.out
          rwa [hke, List.take_length] at this
      have hge : ¬ (k : Int) < (l.length : Int) := by omega
      clear hlt hke
      go_wp2
      go_ret
      exact HE.out
set_option maxRecDepth 100000 in
set_option maxHeartbeats 1000000 in
theorem made_any (n : Int) (a : Option Addr) (cap : Nat) (l : List (Int × Int)) (w : World) (ha : Prs w a l) :
    Calls Try.prog 77 #[.int .i64 n, .slice a l.length cap] w (MadeOut n l w) := by
  by_cases h1 : n < 0
  · have d1 : decide (n < 0) = true := decide_eq_true h1
    have HE : Hid (MadeOut n l w (.returned (.pointer none)) w) := ⟨Below.refl _ _, .inr ⟨fun h => by have := h.1; omega, rfl⟩⟩
    clear ha h1
    go_enter Try.func77, Try.ntmps77
    go_wp2
    go_ret
    exact HE.out
  · by_cases h2 : 64 < n
    · have d1 : decide (n < 0) = false := decide_eq_false h1
      have d2 : decide (64 < n) = true := decide_eq_true h2
      have HE : Hid (MadeOut n l w (.returned (.pointer none)) w) := ⟨Below.refl _ _, .inr ⟨fun h => by have := h.2.1; omega, rfl⟩⟩
      clear ha h1
      go_enter Try.func77, Try.ntmps77
      go_wp2
      go_ret
      exact HE.out
    · by_cases h3 : (256 : Int) < (l.length : Int)
      · have d1 : decide (n < 0) = false := decide_eq_false h1
        have d2 : decide (64 < n) = false := decide_eq_false h2
        have d3 : decide ((256 : Int) < (l.length : Int)) = true := decide_eq_true h3
        have HE : Hid (MadeOut n l w (.returned (.pointer none)) w) := ⟨Below.refl _ _, .inr ⟨fun h => by have := h.2.2.1; omega, rfl⟩⟩
        clear ha h1 h2
        go_enter Try.func77, Try.ntmps77
        go_wp2
        go_ret
        exact HE.out
      · exact made_yes n a cap l (by omega) (by omega) (by omega) w ha
end Gra
end Go.Proofs.Ytfincohdchnniaa
