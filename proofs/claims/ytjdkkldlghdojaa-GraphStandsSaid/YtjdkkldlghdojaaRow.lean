/- Blocks of one's own whose first cells are known: reading, writing, appending, and where a row lies. -/
import Derived.Test.YtjdkkldlghdojaaOwn
import Derived.Test.YtjdkkldlghdojaaInI
import Derived.Deep.AppendLies
import Derived.OneCell
namespace Go.Proofs.Ytjdkkldlghdojaa
open Go.RowKit
/-- The first cells of a block that is not frozen. -/
def RowAt (w : World) (g : Nat) (vs : List Value) : Prop := ∃ cur T, w.heap[g]? = some (.cells cur T (0, 0)) ∧ ∀ (i : Nat) (u : Value), vs[i]? = some u → cur[i]? = some u
namespace RowAt
variable {w w' : World} {g : Nat} {vs : List Value}
theorem lt (h : RowAt w g vs) : g < w.heap.size := by
  obtain ⟨cur, T, hg, _⟩ := h
  exact (Array.getElem?_eq_some_iff.1 hg).1
theorem cell (h : RowAt w g vs) {i : Nat} {u : Value} (hi : vs[i]? = some u) : w.cell? ⟨g, i, none⟩ = some u := by
  obtain ⟨cur, T, hg, hc⟩ := h
  simp [World.cell?, hg, hc i u hi]
theorem frozen (h : RowAt w g vs) (i : Nat) : w.frozen? ⟨g, i, none⟩ = false := by
  obtain ⟨cur, T, hg, _⟩ := h
  simp [World.frozen?, hg]
theorem of_block (h : RowAt w g vs) (e : w'.heap[g]? = w.heap[g]?) : RowAt w' g vs := by
  obtain ⟨cur, T, hg, hc⟩ := h
  exact ⟨cur, T, e.trans hg, hc⟩
theorem set (h : RowAt w g vs) (i : Nat) (u : Value) : RowAt (w.setCell ⟨g, i, none⟩ u) g (vs.set i u) := by
  obtain ⟨cur, T, hg, hc⟩ := h
  refine ⟨cur.setIfInBounds i u, T, ?_, fun j x hj => ?_⟩
  · simp [World.setCell, Array.getElem?_modify, hg]
  · rw [List.getElem?_set] at hj
    rw [Array.getElem?_setIfInBounds]
    by_cases e : i = j
    · subst e
      rw [if_pos rfl] at hj ⊢
      split at hj
      · have hb : i < cur.size := (Array.getElem?_eq_some_iff.1 (hc i _ (List.getElem?_eq_getElem ‹_›))).1
        rw [if_pos hb]; exact hj
      · cases hj
    · rw [if_neg e] at hj ⊢
      exact hc j x hj
theorem setOther (h : RowAt w g vs) {a : Addr} (ha : g ≠ a.block) (u : Value) : RowAt (w.setCell a u) g vs := h.of_block (Below.heap_setCell _ _ _ _ ha)
theorem alloc (h : RowAt w g vs) (o : Obj) : RowAt (w.alloc o) g vs := h.of_block (heap_alloc_old w o h.lt)
theorem drew (h : RowAt w g vs) : RowAt w.drew g vs := h
theorem drewN (h : RowAt w g vs) (n : Nat) : RowAt (w.drewN n) g vs := h
theorem below (h : RowAt w g vs) (hb : Below w.heap.size w w') : RowAt w' g vs := h.of_block (hb.block g h.lt)
theorem of_own {base : Nat} {e : TypeId} {size n cap : Nat} (h : w.ownsRow base e size (.slice (some ⟨g, 0, none⟩) n cap) n vs) : RowAt w g vs := by
  rcases h.2 with ⟨h0, _⟩ | ⟨g', cap', cur, hv, _, hg, _, _, _, ht⟩
  · cases h0
  · cases hv
    refine ⟨cur, e, hg, fun i u hu => ?_⟩
    rw [← ht, List.getElem?_take] at hu
    split at hu
    · simpa using hu
    · cases hu
theorem grown {row : Option Nat} (h : RowAt w g vs) (hg : w.grownBy w' row) (hne : some g ≠ row) : RowAt w' g vs := h.of_block (hg.block g h.lt hne)
theorem mono (h : RowAt w g vs) {us : List Value} (hm : ∀ (i : Nat) (u : Value), us[i]? = some u → vs[i]? = some u) : RowAt w g us := by
  obtain ⟨cur, T, hg, hc⟩ := h
  exact ⟨cur, T, hg, fun i u hu => hc i u (hm i u hu)⟩
theorem ints (h : RowAt w g (vs)) (k : IntKind) (l : List Int) (hl : vs = l.map (Value.int k)) : In.Ints k w (some ⟨g, 0, none⟩) l := fun i hi => ⟨g, 0, rfl, h.lt, by
  rw [Nat.zero_add]
  refine h.cell ?_
  rw [hl, List.getElem?_map, List.getElem?_eq_getElem hi, List.getD_eq_getElem?_getD, List.getElem?_eq_getElem hi]; rfl⟩
end RowAt
namespace Own
/-- One element behind a row of one's own, and where the row then lies. -/
theorem lies_one {P : Program} {ops : Array Oper} {rest : List Oper} {o : Oper} {a : Act} {w : World} {Q : Exit → Act → World → Prop} (hgd : o.guard = none) (s x : Operand) (t : TypeId)
    (ho : o.op = .call { callee := .builtin .append, args := #[s, x], argTypes := #[t, t] })
    (base : Nat) (e : TypeId) (i : TypeInfo) (z : Value) (bytes : Nat) (ht : P.underlying t = some (.slice e)) (hi : P.info? e = some i) (hz : i.zero = some z)
    (hsize : i.size = 1) (hby : i.bytes = bytes) (hzs : z.cells.size = 1)
    (v : Value) (n : Nat) (xs : List Value) (hs : a.eval s = v) (ad : Addr) (c : Nat) (u : Value) (hx : a.eval x = .slice (some ad) 1 c) (hown : w.ownsRow base e 1 v n xs)
    (hu : w.cell? ad = some u) (h1 : u.oneCell' = true) (h63 : n + 1 ≤ maxLen) (hbytes : (n + 1) * bytes ≤ 140737488355328) (hbase : base ≤ w.heap.size) (H : Nat) (hH : w.heap.size = H)
    (h : ∀ g cap w', w'.ownsRow base e 1 (.slice (some ⟨g, 0, none⟩) (n + 1) cap) (n + 1) (xs ++ [u]) → w.grownBy w' v.ownBlock → (v.ownBlock = some g ∨ g = H) → g < w'.heap.size → wpList P ops Q rest (a.put o.dst (.slice (some ⟨g, 0, none⟩) (n + 1) cap)) w') : wpList P ops Q (o :: rest) a w :=
  wpList_append_lies w hgd s x t ho base e i z 1 bytes ht hi hz hsize hby hzs (by decide) v n xs hs hown ad 1 c [u] hx rfl
    (fun j u hj => by cases j with
      | zero => simp at hj; subst hj; simpa [Addr.add] using hu
      | succ j => simp at hj) (fun u hw => by simp at hw; subst hw; exact h1) (by decide) h63 hbytes hbase H hH h
/-- One pair behind a row of one's own, and where the row then lies. -/
theorem lies_pair {P : Program} {ops : Array Oper} {rest : List Oper} {o : Oper} {a : Act} {w : World} {Q : Exit → Act → World → Prop} (hgd : o.guard = none) (s x : Operand) (t : TypeId)
    (ho : o.op = .call { callee := .builtin .append, args := #[s, x], argTypes := #[t, t] })
    (base : Nat) (e : TypeId) (i : TypeInfo) (z : Value) (bytes : Nat) (ht : P.underlying t = some (.slice e)) (hi : P.info? e = some i) (hz : i.zero = some z)
    (hsize : i.size = 2) (hby : i.bytes = bytes) (hzs : z.cells.size = 2)
    (v : Value) (n : Nat) (xs : List Value) (hs : a.eval s = v) (ad : Addr) (c : Nat) (u0 u1 : Value) (hx : a.eval x = .slice (some ad) 1 c) (hown : w.ownsRow base e 2 v n xs)
    (hu0 : w.cell? (ad.add 0) = some u0) (hu1 : w.cell? (ad.add 1) = some u1) (h0 : u0.oneCell' = true) (h1 : u1.oneCell' = true) (h63 : n + 1 ≤ maxLen) (hbytes : (n + 1) * bytes ≤ 140737488355328) (hbase : base ≤ w.heap.size) (H : Nat) (hH : w.heap.size = H)
    (h : ∀ g cap w', w'.ownsRow base e 2 (.slice (some ⟨g, 0, none⟩) (n + 1) cap) (n + 1) (xs ++ [u0, u1]) → w.grownBy w' v.ownBlock → (v.ownBlock = some g ∨ g = H) → g < w'.heap.size → wpList P ops Q rest (a.put o.dst (.slice (some ⟨g, 0, none⟩) (n + 1) cap)) w') : wpList P ops Q (o :: rest) a w :=
  wpList_append_lies w hgd s x t ho base e i z 2 bytes ht hi hz hsize hby hzs (by decide) v n xs hs hown ad 1 c [u0, u1] hx rfl
    (fun j u hj => by
      match j, hj with
      | 0, hj => simp at hj; subst hj; exact hu0
      | 1, hj => simp at hj; subst hj; exact hu1
      | j + 2, hj => simp at hj) (fun u hw => by simp at hw; rcases hw with rfl | rfl <;> assumption) (by decide) h63 hbytes hbase H hH h
/-- Two rows that lie apart. -/
def Apart (v u : Value) : Prop := v.ownBlock = none ∨ v.ownBlock ≠ u.ownBlock
theorem Apart.symm {v u : Value} (h : Apart v u) : Apart u v := by
  rcases h with h | h
  · cases hu : u.ownBlock with
    | none => exact .inl hu
    | some k => exact .inr (by rw [h, hu]; simp)
  · exact .inr (Ne.symm h)
theorem Apart.left {v u : Value} {g n cap H : Nat} (h : Apart v u) (hat : v.ownBlock = some g ∨ g = H) (hu : ∀ k, u.ownBlock = some k → k < H) : Apart (.slice (some ⟨g, 0, none⟩) n cap) u := by
  right
  show some g ≠ _
  intro e
  rcases hat with hat | hat
  · rcases h with h | h
    · rw [h] at hat; cases hat
    · exact h (hat.trans e)
  · have := hu g e.symm; omega
theorem Apart.right {v u : Value} {g n cap H : Nat} (h : Apart v u) (hat : u.ownBlock = some g ∨ g = H) (hv : ∀ k, v.ownBlock = some k → k < H) : Apart v (.slice (some ⟨g, 0, none⟩) n cap) := (h.symm.left hat hv).symm
theorem Apart.kept {w w' : World} {base : Nat} {e : TypeId} {size n : Nat} {v u : Value} {xs : List Value} (h : Apart u v) (ho : w.ownsRow base e size u n xs) (hg : w.grownBy w' v.ownBlock) : w'.ownsRow base e size u n xs :=
  ho.kept hg h
end Own
end Go.Proofs.Ytjdkkldlghdojaa
