/- Texts put together: Own, RecP, RecM, Own2, RecN. -/
import Derived.Test.YtiabnjmblcogmaaChecked
import Derived.WalkKit
import Derived.Below
import Derived.Deep.AppendLies
import Derived.Deep.RegionLaw
import Derived.Laws.IdiomStrings
import Derived.Laws.BytesArg
import Derived.Lib.Hide
import Derived.WalkLawsBesides
import Derived.Laws.DeepStrings4
import Derived.WalkSmall
import Derived.ProofKit
import Derived.Maps.OwnOps
import Derived.Maps.Views
import Derived.WalkArith
import Derived.BigQuiet
set_option linter.all false
section
namespace Go.Proofs.Ytiabnjmblcogmaa
open Go.RowKit
namespace Own
theorem own_block {w : World} {base : Nat} {e : TypeId} {size : Nat} {v : Value} {n : Nat} {xs : List Value} (h : w.ownsRow base e size v n xs) {B : Nat} (hB : B ≤ base) : ∀ k, v.ownBlock = some k → B ≤ k :=
  fun k hk => Nat.le_trans hB (h.lt k hk).1
/-- One element behind a row of one's own, in a region that draws its order. -/
theorem step_one {P : Program} {ops : Array Oper} {o : Oper} {a : Act} {w : World} {K : Act → World → Prop} {Q : Exit → Act → World → Prop} {E : Prop} (hgd : o.guard = none) (s x : Operand) (t : TypeId)
    (ho : o.op = .call { callee := .builtin .append, args := #[s, x], argTypes := #[t, t] })
    (base : Nat) (e : TypeId) (i : TypeInfo) (z : Value) (bytes : Nat) (ht : P.underlying t = some (.slice e)) (hi : P.info? e = some i) (hz : i.zero = some z)
    (hsize : i.size = 1) (hby : i.bytes = bytes) (hzs : z.cells.size = 1)
    (v : Value) (n : Nat) (xs : List Value) (hs : a.eval s = v) (ad : Addr) (c : Nat) (u : Value) (hx : a.eval x = .slice (some ad) 1 c) (hown : w.ownsRow base e 1 v n xs)
    (hu : w.cell? ad = some u) (h1 : u.oneCell' = true) (h63 : n + 1 ≤ maxLen) (hbytes : (n + 1) * bytes ≤ 140737488355328) (hbase : base ≤ w.heap.size)
    (h : ∀ v' w', w'.ownsRow base e 1 v' (n + 1) (xs ++ [u]) → w.grownBy w' v.ownBlock → K (a.put o.dst v') w') :
    if Region.wanted o (yielded ops a.tmps) = true then Oper.wp P o a w K Q else E :=
  step_append_lies w hgd s x t ho base e i z 1 bytes ht hi hz hsize hby hzs (by decide) v n xs hs hown ad 1 c [u] hx rfl
    (fun j u2 hj => by cases j with
      | zero => simp at hj; subst hj; simpa [Addr.add] using hu
      | succ j => simp at hj) (fun u2 hw => by simp at hw; subst hw; exact h1) (by decide) h63 hbytes hbase _ rfl
    (fun g cap w' hown' hgrow _ _ => h _ w' hown' hgrow)
/-- One element behind a row of one's own. -/
theorem list_one {P : Program} {ops : Array Oper} {rest : List Oper} {o : Oper} {a : Act} {w : World} {Q : Exit → Act → World → Prop} (hgd : o.guard = none) (s x : Operand) (t : TypeId)
    (ho : o.op = .call { callee := .builtin .append, args := #[s, x], argTypes := #[t, t] })
    (base : Nat) (e : TypeId) (i : TypeInfo) (z : Value) (bytes : Nat) (ht : P.underlying t = some (.slice e)) (hi : P.info? e = some i) (hz : i.zero = some z)
    (hsize : i.size = 1) (hby : i.bytes = bytes) (hzs : z.cells.size = 1)
    (v : Value) (n : Nat) (xs : List Value) (hs : a.eval s = v) (ad : Addr) (c : Nat) (u : Value) (hx : a.eval x = .slice (some ad) 1 c) (hown : w.ownsRow base e 1 v n xs)
    (hu : w.cell? ad = some u) (h1 : u.oneCell' = true) (h63 : n + 1 ≤ maxLen) (hbytes : (n + 1) * bytes ≤ 140737488355328) (hbase : base ≤ w.heap.size)
    (h : ∀ v' w', w'.ownsRow base e 1 v' (n + 1) (xs ++ [u]) → w.grownBy w' v.ownBlock → wpList P ops Q rest (a.put o.dst v') w') : wpList P ops Q (o :: rest) a w :=
  wpList_append_own w hgd s x t ho base e i z 1 bytes ht hi hz hsize hby hzs (by decide) v n xs hs hown ad 1 c [u] hx rfl
    (fun j u2 hj => by cases j with
      | zero => simp at hj; subst hj; simpa [Addr.add] using hu
      | succ j => simp at hj) (fun u2 hw => by simp at hw; subst hw; exact h1) h63 hbytes hbase
    (fun v' w' hown' hgrow _ => h v' w' hown' hgrow)
/-- Bytes as cells. -/
def byteVals (l : List UInt8) : List Value := l.map fun b => Value.int .u8 b.toNat
theorem byteVals_append (a b : List UInt8) : byteVals (a ++ b) = byteVals a ++ byteVals b := by simp [byteVals]
theorem byteVals_length (a : List UInt8) : (byteVals a).length = a.length := by simp [byteVals]
/-- 'string(b)' of bytes of one's own. -/
theorem run_back {P : Program} {w : World} {base : Nat} {e src dst : TypeId} {v : Value} {l : List UInt8} (hs : P.underlying src = some (.slice e)) (he : P.underlying e = some (.int .u8)) (hd : P.underlying dst = some .string)
    (h : w.ownsRow base e 1 v l.length (byteVals l)) : (convert src dst v).run P w = .ok (.string ⟨l.toArray⟩) w := by
  rcases h.2 with ⟨rfl, h0⟩ | ⟨g, cap, cur, rfl, _, _, _⟩
  · have : l = [] := List.length_eq_zero_iff.1 h0
    subst this
    exact run_convert_bytes_nil w src e hs he 0 0 dst hd
  · apply run_convert_bytes_back w src dst e _ cap l hs he hd
    intro j hj
    exact h.cells rfl j _ (by simp [byteVals, hj])
theorem ownsRow_drewN {w : World} {base : Nat} {e : TypeId} {size : Nat} {v : Value} {n : Nat} {xs : List Value} (h : w.ownsRow base e size v n xs) (q : Nat) : (w.drewN q).ownsRow base e size v n xs := h
theorem ownsRow_drew {w : World} {base : Nat} {e : TypeId} {size : Nat} {v : Value} {n : Nat} {xs : List Value} (h : w.ownsRow base e size v n xs) : w.drew.ownsRow base e size v n xs := h
theorem cell_new (w : World) (x : Value) (t : TypeId) : (w.alloc (.cells #[x] t)).cell? ⟨w.heap.size, 0, none⟩ = some x :=
  (cell_of_row _ _ 0 #[x] t (0, 0) (by show (w.heap.push _)[w.heap.size]? = _; simp)).trans rfl
/-- 'string(b)' of a block of bytes. -/
theorem run_back_block {P : Program} {w : World} {e src dst T : TypeId} {fr : Nat × Nat} (g cap : Nat) (l : List UInt8) (rest : List Value) (hs : P.underlying src = some (.slice e)) (he : P.underlying e = some (.int .u8)) (hd : P.underlying dst = some .string)
    (h : w.heap[g]? = some (.cells (byteVals l ++ rest).toArray T fr)) : (convert src dst (.slice (some ⟨g, 0, none⟩) l.length cap)).run P w = .ok (.string ⟨l.toArray⟩) w := by
  apply run_convert_bytes_back w src dst e _ cap l hs he hd
  intro j hj
  have hadd : (⟨g, 0, none⟩ : Addr).add j = ⟨g, j, none⟩ := by unfold Addr.add; split <;> simp_all
  rw [hadd, cell_of_row _ _ _ _ _ _ h]
  simp [byteVals, List.getElem?_append, hj]
theorem heap_new (w : World) (o : Obj) : (w.alloc o).heap[w.heap.size]? = some o := by
  show (w.heap.push _)[w.heap.size]? = _; simp
theorem run_back_new {P : Program} {w : World} {e src dst T : TypeId} (cap : Nat) (C : Array Value) (l : List UInt8) (n : Nat) (hs : P.underlying src = some (.slice e)) (he : P.underlying e = some (.int .u8)) (hd : P.underlying dst = some .string)
    (hC : C = (byteVals l).toArray) (hn : l.length = n) : (convert src dst (.slice (some ⟨w.heap.size, 0, none⟩) n cap)).run P (w.alloc (.cells C T)) = .ok (.string ⟨l.toArray⟩) (w.alloc (.cells C T)) := by
  subst hn
  exact run_back_block w.heap.size cap l [] hs he hd (by rw [heap_new, hC, List.append_nil])
/-- A cut of a string, its bounds written as a walk writes them. -/
theorem slice_str {P : Program} {t : TypeId} (ht : P.underlying t = some .string) (s : ByteArray) (lo hi : Nat) (i j : Int) (h1 : i = (lo : Int)) (h2 : j = (hi : Int)) (h3 : lo ≤ hi) (h4 : hi ≤ s.size) (w : World) :
    (Instr.slice t (.string s) (some (.int .i64 i)) (some (.int .i64 j)) none).run P w = .ok (.string (s.extract lo hi)) w := by
  subst h1
  subst h2
  rw [run_slice_string_if w t s .i64 .i64 _ _ ht, if_pos ⟨by omega, by omega⟩, if_pos ⟨by omega, by omega⟩]
  simp
/-- A row of one's own stays where nothing that was there has changed. -/
theorem own_below {w w' : World} {base : Nat} {e : TypeId} {size : Nat} {v : Value} {n : Nat} {xs : List Value} (h : w.ownsRow base e size v n xs) (hb : Below w.heap.size w w') : w'.ownsRow base e size v n xs := by
  refine ⟨h.1, ?_⟩
  rcases h.2 with h0 | ⟨g, cap, cur, rfl, h1, hg, h2⟩
  · exact .inl h0
  · exact .inr ⟨g, cap, cur, rfl, h1, (hb.block g (Array.getElem?_eq_some_iff.1 hg).1).trans hg, h2⟩
end Own
end Go.Proofs.Ytiabnjmblcogmaa
end
section
namespace Go.Proofs.Ytiabnjmblcogmaa
open Go.RowKit
namespace Rec
theorem below2 {w a b : World} (h : Below w.heap.size w a) (h2 : Below a.heap.size a b) : Below w.heap.size w b := h.trans (h2.mono h.size)
theorem below_al {w x : World} (h : Below w.heap.size w x) (o : Obj) : Below w.heap.size w (x.alloc o) := h.alloc h.size o
abbrev Stk := Int × Int
/-- The stacks that stand from an address on. -/
def Stks (w : World) (a : Option Addr) (l : List Stk) : Prop :=
  ∀ i, i < l.length → ∃ b off, a = some ⟨b, off, none⟩ ∧ b < w.heap.size ∧ w.cell? ⟨b, off + i * 2, none⟩ = some (.int .i64 (l.getD i (0, 0)).1) ∧ w.cell? ⟨b, off + i * 2 + 1, none⟩ = some (.int .i64 (l.getD i (0, 0)).2)
theorem Stks.below {w w' : World} {a : Option Addr} {l : List Stk} (h : Stks w a l) (hb : Below w.heap.size w w') : Stks w' a l := fun i hi => by
  obtain ⟨b, off, ha, hlt, hc, hd⟩ := h i hi
  exact ⟨b, off, ha, Nat.lt_of_lt_of_le hlt hb.size, (hb.cell (p := ⟨b, off + i * 2, none⟩) hlt).trans hc, (hb.cell (p := ⟨b, off + i * 2 + 1, none⟩) hlt).trans hd⟩
/-- The type ahead of the k-th stack. -/
def lastOf (l : List Stk) : Nat → Int
  | 0 => 0
  | k + 1 => (l.getD k (0, 0)).1
/-- The k-th stack may be one of so many types. -/
def good (l : List Stk) (types : Int) (k : Nat) : Bool :=
  decide (lastOf l k < (l.getD k (0, 0)).1) && (decide ((l.getD k (0, 0)).1 ≤ types) && (decide (1 ≤ (l.getD k (0, 0)).2) && decide ((l.getD k (0, 0)).2 ≤ 1125899906842624)))
def goodTo (l : List Stk) (types : Int) : Nat → Bool
  | 0 => true
  | k + 1 => goodTo l types k && good l types k
def chk (l : List Stk) (types : Int) : Int := if goodTo l types l.length && decide (l.length ≤ 8) then 0 else 1
theorem goodTo_no (l : List Stk) (types : Int) (k j : Nat) (h : good l types k = false) (hj : k < j) : goodTo l types j = false := by
  induction j with
  | zero => omega
  | succ j ih =>
    rw [goodTo]
    by_cases e : k = j
    · subst e; rw [h]; simp
    · rw [ih (by omega)]; rfl
set_option maxHeartbeats 1000000 in
theorem goodsCheck_any (a : Option Addr) (cap : Nat) (l : List Stk) (hl : l.length ≤ maxLen) (types : Int) (w : World) (ha : Stks w a l) :
    Calls Try.prog 90 #[.slice a l.length cap, .int .i64 types] w fun e w' => e = .returned (.int .i64 (chk l types)) ∧ Below w.heap.size w w' := by
  unfold maxLen at hl
  have HA := Lib.hid ha
  clear ha
  go_enter Try.func90, Try.ntmps90
  go_wp2
  go_loopw [5, 10] (fun x i wr => ∃ k : Nat, k ≤ l.length ∧ i = .int .i64 k ∧ x = .int .i64 (lastOf l k) ∧ Hid (goodTo l types k = true) ∧ Below w.heap.size w wr) (fun _ i _ => l.length - (intOf i).toNat)
  case atStart => exact ⟨0, by omega, rfl, rfl, rfl, Below.refl _ _⟩
  case round =>
    obtain ⟨k, hk, rfl, rfl, HG, hb⟩ := hrel
    by_cases hlt : k < l.length
    · obtain ⟨b, off, rfl, hbl, hc, hd⟩ := (Stks.below HA.out hb) k hlt
      have hlt1 : (k : Int) < (l.length : Int) := by omega
      have hgn : Hid (goodTo l types (k + 1) = (goodTo l types k && good l types k)) := rfl
      have hgd : Hid (good l types k = (decide (lastOf l k < (l.getD k (0, 0)).1) && (decide ((l.getD k (0, 0)).1 ≤ types) && (decide (1 ≤ (l.getD k (0, 0)).2) && decide ((l.getD k (0, 0)).2 ≤ 1125899906842624))))) := rfl
      have hnx : Hid (lastOf l (k + 1) = (l.getD k (0, 0)).1) := rfl
      have hno : good l types k = false → Hid (chk l types = 1) := by
        intro h
        show chk l types = 1
        unfold chk
        rw [goodTo_no l types k l.length h hlt]
        rfl
      generalize (l.getD k (0, 0)).1 = T at *
      generalize (l.getD k (0, 0)).2 = Q at *
      obtain ⟨p, hp⟩ : ∃ p, Hid (lastOf l k = p) := ⟨_, rfl⟩
      rw [hp.out] at hgd ⊢
      by_cases g1 : p < T
      · have d1 : decide (T ≤ p) = false := decide_eq_false (by omega)
        have n1 : ¬ T ≤ p := by omega
        by_cases g2 : T ≤ types
        · have d2 : decide (types < T) = false := decide_eq_false (by omega)
          have n2 : ¬ types < T := by omega
          by_cases g3 : 1 ≤ Q
          · have d3 : decide (Q < 1) = false := decide_eq_false (by omega)
            have n3 : ¬ Q < 1 := by omega
            by_cases g4 : Q ≤ 1125899906842624
            · have d4 : decide (1125899906842624 < Q) = false := decide_eq_false (by omega)
              have n4 : ¬ 1125899906842624 < Q := by omega
              have hg : Hid (goodTo l types (k + 1) = true) := by
                show goodTo l types (k + 1) = true
                rw [hgn.out, HG.out, hgd.out, decide_eq_true g1, decide_eq_true g2, decide_eq_true g3, decide_eq_true g4]
                rfl
              clear hno
              go_wp2
              go_roundw
              case rel => exact ⟨k + 1, by omega, by go_num, by rw [hnx.out], hg, below_al hb _⟩
              case measure => simp [intOf]; omega
            · have d4 : decide (1125899906842624 < Q) = true := decide_eq_true (by omega)
              have n4 : 1125899906842624 < Q := by omega
              have hg := hno (by rw [hgd.out, decide_eq_true g1, decide_eq_true g2, decide_eq_true g3, decide_eq_false g4]; rfl)
              clear hno
              go_wp2
              go_ret
              exact ⟨by rw [hg.out]; rfl, below_al hb _⟩
          · have d3 : decide (Q < 1) = true := decide_eq_true (by omega)
            have n3 : Q < 1 := by omega
            have hg := hno (by rw [hgd.out, decide_eq_true g1, decide_eq_true g2, decide_eq_false g3]; rfl)
            clear hno
            go_wp2
            go_ret
            exact ⟨by rw [hg.out]; rfl, below_al hb _⟩
        · have d2 : decide (types < T) = true := decide_eq_true (by omega)
          have n2 : types < T := by omega
          have hg := hno (by rw [hgd.out, decide_eq_true g1, decide_eq_false g2]; rfl)
          clear hno
          go_wp2
          go_ret
          exact ⟨by rw [hg.out]; rfl, below_al hb _⟩
      · have d1 : decide (T ≤ p) = true := decide_eq_true (by omega)
        have n1 : T ≤ p := by omega
        have hg := hno (by rw [hgd.out, decide_eq_false g1]; rfl)
        clear hno
        go_wp2
        go_ret
        exact ⟨by rw [hg.out]; rfl, below_al hb _⟩
    · have hke : k = l.length := by omega
      rw [hke] at HG
      by_cases h8 : l.length ≤ 8
      · have hg : Hid (chk l types = 0) := by show chk l types = 0; unfold chk; rw [HG.out, decide_eq_true h8]; rfl
        clear hke
        go_wp2
        go_ret
        exact ⟨by rw [hg.out]; rfl, hb⟩
      · have hg : Hid (chk l types = 1) := by show chk l types = 1; unfold chk; rw [HG.out, decide_eq_false h8]; rfl
        clear hke
        go_wp2
        go_ret
        exact ⟨by rw [hg.out]; rfl, hb⟩
end Rec
end Go.Proofs.Ytiabnjmblcogmaa
end
section
namespace Go.Proofs.Ytiabnjmblcogmaa
open Go.RowKit Go.Maps
namespace Rec
theorem goodTo_all (l : List Stk) (types : Int) (n : Nat) (h : goodTo l types n = true) (k : Nat) (hk : k < n) : good l types k = true := by
  cases hg : good l types k
  · rw [goodTo_no l types k n hg hk] at h; cases h
  · rfl
/-- What holds of each stack of such a list. -/
def Fair (l : List Stk) : Prop := ∀ k, k < l.length → lastOf l k < (l.getD k (0, 0)).1 ∧ 1 ≤ (l.getD k (0, 0)).2 ∧ (l.getD k (0, 0)).2 ≤ 1125899906842624
theorem good_iff (l : List Stk) (types : Int) (k : Nat) : good l types k = true ↔ lastOf l k < (l.getD k (0, 0)).1 ∧ (l.getD k (0, 0)).1 ≤ types ∧ 1 ≤ (l.getD k (0, 0)).2 ∧ (l.getD k (0, 0)).2 ≤ 1125899906842624 := by
  unfold good; simp only [Bool.and_eq_true, decide_eq_true_eq]
theorem fair_of (l : List Stk) (types : Int) (h : goodTo l types l.length = true) : Fair l := fun k hk => by
  have := (good_iff l types k).1 (goodTo_all l types _ h k hk)
  exact ⟨this.1, this.2.2.1, this.2.2.2⟩
theorem fair_last (l : List Stk) (h : Fair l) (k : Nat) (hk : k ≤ l.length) : 0 ≤ lastOf l k := by
  induction k with
  | zero => exact Int.le_refl 0
  | succ k ih => have := ih (by omega); have := (h k (by omega)).1; show 0 ≤ (l.getD k (0, 0)).1; omega
theorem fair_pos (l : List Stk) (h : Fair l) (k : Nat) (hk : k < l.length) : 1 ≤ (l.getD k (0, 0)).1 := by
  have := fair_last l h k (by omega); have := (h k hk).1; omega
theorem fair_lt (l : List Stk) (h : Fair l) (j k : Nat) (hjk : j < k) (hk : k < l.length) : (l.getD j (0, 0)).1 < (l.getD k (0, 0)).1 := by
  induction k with
  | zero => omega
  | succ k ih =>
    have h1 := (h (k + 1) hk).1
    by_cases e : j = k
    · subst e; exact h1
    · have h2 := ih (by omega) (by omega)
      have h3 : lastOf l (k + 1) = (l.getD k (0, 0)).1 := rfl
      omega
/-- How many there are of a type among the first k stacks. -/
def cnt (l : List Stk) (x : Int) : Nat → Int
  | 0 => 0
  | k + 1 => if (l.getD k (0, 0)).1 = x then (l.getD k (0, 0)).2 else cnt l x k
theorem cnt_none (l : List Stk) (x : Int) (k : Nat) (h : ∀ j, j < k → (l.getD j (0, 0)).1 ≠ x) : cnt l x k = 0 := by
  induction k with
  | zero => rfl
  | succ k ih => rw [cnt, if_neg (h k (by omega)), ih fun j hj => h j (by omega)]
theorem cnt_some (l : List Stk) (h : Fair l) (x : Int) (j k : Nat) (hj : j < k) (hk : k ≤ l.length) (e : (l.getD j (0, 0)).1 = x) : cnt l x k = (l.getD j (0, 0)).2 := by
  induction k with
  | zero => omega
  | succ k ih =>
    rw [cnt]
    by_cases ejk : j = k
    · subst ejk; rw [if_pos e]
    · have := fair_lt l h j k (by omega) (by omega)
      rw [if_neg (by omega)]
      exact ih (by omega) (by omega)
def DM (l : List Stk) : Nat → DataW Unit
  | 0 => .map []
  | k + 1 => (DM l k).put (.int .i64 (l.getD k (0, 0)).1) (.lit (.int .i64 (l.getD k (0, 0)).2))
theorem dm_isMap (l : List Stk) (k : Nat) : IsMap (DM l k) := by
  cases k with
  | zero => exact isMap_empty
  | succ k =>
    have : IsMap (DM l k) := by
      induction k with
      | zero => exact isMap_empty
      | succ k ih => exact ih.put _ _
    exact this.put _ _
theorem dm_at (l : List Stk) (x : Int) (k : Nat) : (DM l k).atKey (.int .i64 x) (.lit (.int .i64 0)) = .lit (.int .i64 (cnt l x k)) := by
  induction k with
  | zero => rfl
  | succ k ih =>
    rw [DM, cnt]
    by_cases e : (l.getD k (0, 0)).1 = x
    · rw [if_pos e, e, atKey_put_same (dm_isMap l k) (show WideAt.IsKeyLit (.int .i64 x) from trivial)]
    · rw [if_neg e, atKey_put_other (fun h => e (by injection h with h1 h2; exact h2.symm)), ih]
set_option maxHeartbeats 400000 in
theorem add_small (a b : Int) (ha : 0 ≤ a) (hb : 0 ≤ b) (hs : a + b ≤ 9223372036854775807) (w : World) :
    Calls Try.prog 74 #[.int .i64 a, .int .i64 b] w fun e w' => e = .returned (.tuple #[.int .i64 (a + b), .int .i64 0]) ∧ w = w' := by
  obtain ⟨s, hsd⟩ : ∃ s : Int, wrap64 (a + b) = s := ⟨_, rfl⟩
  have hs1 : Hid (s = a + b) := by show s = _; rw [← hsd]; unfold wrap64; omega
  have da : decide (0 ≤ a) = true := decide_eq_true ha
  have db : decide (0 ≤ b) = true := decide_eq_true hb
  have ds : decide (0 ≤ s) = true := decide_eq_true (by have := hs1.out; omega)
  have hws : Hid (wrap64 s = s) := by show _ = _; have := hs1.out; unfold wrap64; omega
  clear hs
  go_enter Try.func74, Try.ntmps74
  go_wp2
  go_ret2
  exact ⟨by rw [← hs1.out]; first | rfl | exact congrArg (fun x => Ending.returned (.tuple #[.int .i64 x, .int .i64 0])) hws.out, rfl⟩
/-- The closure: is a stack none? Of a stack that may be: it is not. -/
theorem counts1_no (T Q : Int) (h1 : 1 ≤ T) (h2 : 0 ≤ Q) (w : World) :
    Calls Try.prog 106 #[.agg #[.int .i64 T, .int .i64 Q]] w fun e w' => e = .returned (.bool false) ∧ Below w.heap.size w w' := by
  have d1 : decide (T < 1) = false := decide_eq_false (by omega)
  have d2 : decide (Q < 0) = false := decide_eq_false (by omega)
  have n1 : ¬ T < 1 := by omega
  have n2 : ¬ Q < 0 := by omega
  clear h1 h2
  go_enter Try.func106, Try.ntmps106
  go_wp2
  go_ret
  exact ⟨rfl, (Below.refl _ _).alloc (Nat.le_refl _) _⟩
set_option maxHeartbeats 1000000 in
theorem index_no (a : Option Addr) (cap : Nat) (l : List Stk) (hl : l.length ≤ maxLen) (hf : Fair l) (w : World) (ha : Stks w a l) :
    Calls Try.prog 107 #[.slice a l.length cap, .func (.func 106) #[] #[]] w fun e w' => e = .returned (.int .i64 (-1)) ∧ Below w.heap.size w w' := by
  unfold maxLen at hl
  have HA := Lib.hid ha
  have HF := Lib.hid hf
  clear ha hf
  go_enter Try.func107, Try.ntmps107
  go_wp2
  go_loopw [8] (fun i wr => ∃ k : Nat, k ≤ l.length ∧ i = .int .i64 k ∧ Below w.heap.size w wr) (fun i _ => l.length - (intOf i).toNat)
  case atStart => exact ⟨0, by omega, rfl, Below.refl _ _⟩
  case round =>
    obtain ⟨k, hk, rfl, hb⟩ := hrel
    by_cases hlt : k < l.length
    · obtain ⟨b, off, rfl, hbl, hc, hd⟩ := (Stks.below HA.out hb) k hlt
      have hlt1 : (k : Int) < (l.length : Int) := by omega
      have hp := fair_pos l HF.out k hlt
      have hq := (HF.out k hlt).2.1
      generalize (l.getD k (0, 0)).1 = T at *
      generalize (l.getD k (0, 0)).2 = Q at *
      have CC := Lib.hid (counts1_no T Q hp (by omega))
      clear hp hq
      go_wp2_with (go_at_call 106; ((with_reducible refine (CC.out _).mono ?_); rintro e w1 ⟨rfl, hb1⟩))
      go_roundw
      case rel => exact ⟨k + 1, by omega, by go_num, below2 hb hb1⟩
      case measure => simp [intOf]; omega
    · have hke : k = l.length := by omega
      clear hke
      go_wp2
      go_ret
      exact ⟨rfl, hb⟩
theorem contains_no (a : Option Addr) (cap : Nat) (l : List Stk) (hl : l.length ≤ maxLen) (hf : Fair l) (w : World) (ha : Stks w a l) :
    Calls Try.prog 105 #[.slice a l.length cap, .func (.func 106) #[] #[]] w fun e w' => e = .returned (.bool false) ∧ Below w.heap.size w w' := by
  have CC := Lib.hid (index_no a cap l hl hf w ha)
  clear hl hf ha
  go_enter Try.func105, Try.ntmps105
  go_wp2_with (go_at_call 107; ((with_reducible refine CC.out.mono ?_); rintro e w1 ⟨rfl, hb1⟩))
  go_ret
  exact ⟨rfl, hb1⟩
end Rec
end Go.Proofs.Ytiabnjmblcogmaa
end
section
namespace Go.Proofs.Ytiabnjmblcogmaa
open Go.RowKit
namespace Rec
/-- Stacks as cells. -/
def stkVals (l : List Stk) : List Value := l.flatMap fun s => [Value.int .i64 s.1, Value.int .i64 s.2]
theorem stkVals_append (a b : List Stk) : stkVals (a ++ b) = stkVals a ++ stkVals b := by simp [stkVals]
theorem stkVals_length (l : List Stk) : (stkVals l).length = l.length * 2 := by
  induction l with
  | nil => rfl
  | cons a l ih => simp only [stkVals, List.flatMap_cons, List.length_append, List.length_cons, List.length_nil] at ih ⊢; omega
theorem stkVals_get (l : List Stk) (i : Nat) (h : i < l.length) : (stkVals l)[i * 2]? = some (.int .i64 (l.getD i (0, 0)).1) ∧ (stkVals l)[i * 2 + 1]? = some (.int .i64 (l.getD i (0, 0)).2) := by
  induction l generalizing i with
  | nil => simp at h
  | cons a l ih =>
    cases i with
    | zero => exact ⟨rfl, rfl⟩
    | succ i =>
      have := ih i (by simpa using h)
      have e1 : (i + 1) * 2 = i * 2 + 1 + 1 := by omega
      rw [e1]
      exact this
/-- One pair behind a row of one's own. -/
theorem list_pair {P : Program} {ops : Array Oper} {rest : List Oper} {o : Oper} {a : Act} {w : World} {Q : Exit → Act → World → Prop} (hgd : o.guard = none) (s x : Operand) (t : TypeId)
    (ho : o.op = .call { callee := .builtin .append, args := #[s, x], argTypes := #[t, t] })
    (base : Nat) (e : TypeId) (i : TypeInfo) (z : Value) (bytes : Nat) (ht : P.underlying t = some (.slice e)) (hi : P.info? e = some i) (hz : i.zero = some z)
    (hsize : i.size = 2) (hby : i.bytes = bytes) (hzs : z.cells.size = 2)
    (v : Value) (n : Nat) (xs : List Value) (hs : a.eval s = v) (ad : Addr) (c : Nat) (u0 u1 : Value) (hx : a.eval x = .slice (some ad) 1 c) (hown : w.ownsRow base e 2 v n xs)
    (hu0 : w.cell? (ad.add 0) = some u0) (hu1 : w.cell? (ad.add 1) = some u1) (h0 : u0.oneCell' = true) (h1 : u1.oneCell' = true) (h63 : n + 1 ≤ maxLen) (hbytes : (n + 1) * bytes ≤ 140737488355328) (hbase : base ≤ w.heap.size)
    (h : ∀ v' w', w'.ownsRow base e 2 v' (n + 1) (xs ++ [u0, u1]) → w.grownBy w' v.ownBlock → wpList P ops Q rest (a.put o.dst v') w') : wpList P ops Q (o :: rest) a w :=
  wpList_append_own w hgd s x t ho base e i z 2 bytes ht hi hz hsize hby hzs (by decide) v n xs hs hown ad 1 c [u0, u1] hx rfl
    (fun j u hj => by
      match j, hj with
      | 0, hj => simp at hj; subst hj; exact hu0
      | 1, hj => simp at hj; subst hj; exact hu1
      | j + 2, hj => simp at hj) (fun u hw => by simp at hw; rcases hw with rfl | rfl <;> assumption) h63 hbytes hbase
    (fun v' w' hown' hgrow _ => h v' w' hown' hgrow)
theorem stks_of_own {w : World} {base : Nat} {T : TypeId} {v : Value} {l : List Stk} (h : w.ownsRow base T 2 v l.length (stkVals l)) : ∃ a cap, v = .slice a l.length cap ∧ Stks w a l := by
  rcases h.2 with ⟨rfl, h0⟩ | ⟨g, cap, cur, rfl, _, hg, _⟩
  · exact ⟨none, 0, by rw [h0], fun i hi => by omega⟩
  · refine ⟨some ⟨g, 0, none⟩, cap, rfl, fun i hi => ⟨g, 0, rfl, ?_, ?_, ?_⟩⟩
    · exact (Array.getElem?_eq_some_iff.1 hg).1
    · have := h.cells rfl (i * 2) _ (stkVals_get l i hi).1
      have hadd : (⟨g, 0, none⟩ : Addr).add (i * 2) = ⟨g, 0 + i * 2, none⟩ := by unfold Addr.add; split <;> simp_all
      rwa [hadd] at this
    · have := h.cells rfl (i * 2 + 1) _ (stkVals_get l i hi).2
      have hadd : (⟨g, 0, none⟩ : Addr).add (i * 2 + 1) = ⟨g, 0 + i * 2 + 1, none⟩ := by unfold Addr.add; split <;> simp_all <;> omega
      rwa [hadd] at this
theorem pair_new (w : World) (u0 u1 : Value) (t : TypeId) : (w.alloc (.cells #[u0, u1] t)).cell? ((⟨w.heap.size, 0, none⟩ : Addr).add 0) = some u0 ∧ (w.alloc (.cells #[u0, u1] t)).cell? ((⟨w.heap.size, 0, none⟩ : Addr).add 1) = some u1 := by
  constructor <;> simp [Addr.add, go_sem]
end Rec
end Go.Proofs.Ytiabnjmblcogmaa
end
section
namespace Go.Proofs.Ytiabnjmblcogmaa
open Go.RowKit
namespace Rec
/-- The least type above La of the first k stacks; 0 where there is none. -/
def nk (l : List Stk) (La : Int) : Nat → Int
  | 0 => 0
  | k + 1 => if La < (l.getD k (0, 0)).1 ∧ (nk l La k = 0 ∨ (l.getD k (0, 0)).1 < nk l La k) then (l.getD k (0, 0)).1 else nk l La k
/-- Types and numbers that are not refused at once. -/
def Sane (l : List Stk) : Prop := ∀ i, i < l.length → 1 ≤ (l.getD i (0, 0)).1 ∧ 0 ≤ (l.getD i (0, 0)).2
theorem nk_spec (l : List Stk) (hs : Sane l) (La : Int) (h0 : 0 ≤ La) (k : Nat) (hk : k ≤ l.length) :
    (nk l La k = 0 ∧ ∀ i, i < k → (l.getD i (0, 0)).1 ≤ La) ∨ (La < nk l La k ∧ (∃ i, i < k ∧ (l.getD i (0, 0)).1 = nk l La k) ∧ ∀ i, i < k → La < (l.getD i (0, 0)).1 → nk l La k ≤ (l.getD i (0, 0)).1) := by
  induction k with
  | zero => exact .inl ⟨rfl, fun i hi => by omega⟩
  | succ k ih =>
    have hT := (hs k (by omega)).1
    rw [nk]
    by_cases c : La < (l.getD k (0, 0)).1 ∧ (nk l La k = 0 ∨ (l.getD k (0, 0)).1 < nk l La k)
    · rw [if_pos c]
      refine .inr ⟨c.1, ⟨k, by omega, rfl⟩, fun i hi hLa => ?_⟩
      by_cases e : i = k
      · subst e; exact Int.le_refl _
      · rcases ih (by omega) with ⟨h1, h2⟩ | ⟨h1, h2, h3⟩
        · have := h2 i (by omega); omega
        · have := h3 i (by omega) hLa
          rcases c.2 with c2 | c2 <;> omega
    · rw [if_neg c]
      rcases ih (by omega) with ⟨h1, h2⟩ | ⟨h1, ⟨i, hi, he⟩, h3⟩
      · refine .inl ⟨h1, fun i hi => ?_⟩
        by_cases e : i = k
        · subst e
          by_cases g : La < (l.getD i (0, 0)).1
          · exact absurd ⟨g, .inl h1⟩ c
          · omega
        · exact h2 i (by omega)
      · refine .inr ⟨h1, ⟨i, by omega, he⟩, fun i hi hLa => ?_⟩
        by_cases e : i = k
        · subst e
          by_cases g : (l.getD i (0, 0)).1 < nk l La i
          · exact absurd ⟨hLa, .inr g⟩ c
          · omega
        · exact h3 i (by omega) hLa
/-- The sum of a type among the first k stacks. -/
def sm (l : List Stk) (x : Int) : Nat → Int
  | 0 => 0
  | k + 1 => if (l.getD k (0, 0)).1 = x then sm l x k + (l.getD k (0, 0)).2 else sm l x k
theorem sm_none (l : List Stk) (x : Int) (k : Nat) (h : ∀ j, j < k → (l.getD j (0, 0)).1 ≠ x) : sm l x k = 0 := by
  induction k with
  | zero => rfl
  | succ k ih => rw [sm, if_neg (h k (by omega)), ih fun j hj => h j (by omega)]
theorem sm_fair (l : List Stk) (hf : Fair l) (x : Int) (j k : Nat) (hj : j < k) (hk : k ≤ l.length) (e : (l.getD j (0, 0)).1 = x) : sm l x k = (l.getD j (0, 0)).2 := by
  induction k with
  | zero => omega
  | succ k ih =>
    rw [sm]
    by_cases ejk : j = k
    · subst ejk
      rw [if_pos e, sm_none l x j fun i hi => by have := fair_lt l hf i j hi (by omega); omega, Int.zero_add]
    · have := fair_lt l hf j k (by omega) (by omega)
      rw [if_neg (by omega)]
      exact ih (by omega) (by omega)
theorem sm_fair_le (l : List Stk) (hf : Fair l) (x : Int) (k : Nat) (hk : k < l.length) (e : (l.getD k (0, 0)).1 = x) : sm l x k = 0 :=
  sm_none l x k fun i hi => by have := fair_lt l hf i k hi hk; omega
/-- How many stacks are of types above La. -/
def msr (l : List Stk) (La : Int) : Nat := l.countP fun s => decide (La < s.1)
theorem msr_le (l : List Stk) (La x : Int) (h : La < x) : msr l x ≤ msr l La := by
  unfold msr
  exact List.countP_mono_left fun s _ hs => by simp only [decide_eq_true_eq] at hs ⊢; omega
theorem msr_lt (l : List Stk) (La x : Int) (h : La < x) (i : Nat) (hi : i < l.length) (e : (l.getD i (0, 0)).1 = x) : msr l x < msr l La := by
  induction l generalizing i with
  | nil => simp at hi
  | cons a l ih =>
    unfold msr at ih ⊢
    rw [List.countP_cons, List.countP_cons]
    cases i with
    | zero =>
      have hm := msr_le l La x h
      unfold msr at hm
      have e' : a.1 = x := e
      have g1 : La < a.1 := by omega
      have g2 : ¬ x < a.1 := by omega
      rw [if_neg (by simpa using g2), if_pos (by simpa using g1)]
      omega
    | succ i =>
      have := ih i (by simpa using hi) e
      by_cases g : x < a.1
      · have g1 : La < a.1 := by omega
        rw [if_pos (by simpa using g), if_pos (by simpa using g1)]; omega
      · rw [if_neg (by simpa using g)]
        split <;> omega
theorem getD_app_lt (o : List Stk) (s : Stk) (i : Nat) (h : i < o.length) : (o ++ [s]).getD i (0, 0) = o.getD i (0, 0) := by
  simp [List.getD, List.getElem?_append_left h]
theorem getD_app_eq (o : List Stk) (s : Stk) : (o ++ [s]).getD o.length (0, 0) = s := by
  simp [List.getD]
theorem lastOf_app (o : List Stk) (s : Stk) (k : Nat) (h : k ≤ o.length) : lastOf (o ++ [s]) k = lastOf o k := by
  cases k with
  | zero => rfl
  | succ k => show ((o ++ [s]).getD k (0, 0)).1 = _; rw [getD_app_lt o s k (by omega)]; rfl
/-- What holds behind some rounds: the stacks that were found, and the last type. -/
def NInv (l o : List Stk) (La : Int) : Prop :=
  0 ≤ La ∧ Fair o ∧ lastOf o o.length ≤ La ∧ o.length + msr l La ≤ l.length ∧ (Fair l → ∃ j, j ≤ l.length ∧ o = l.take j ∧ La = lastOf l j)
theorem ninv_start (l : List Stk) : NInv l [] 0 :=
  ⟨Int.le_refl 0, fun k hk => by simp at hk, Int.le_refl 0, by unfold msr; simpa using List.countP_le_length, fun _ => ⟨0, by omega, rfl, rfl⟩⟩
theorem take_snoc (l : List Stk) (j : Nat) (h : j < l.length) : l.take j ++ [((l.getD j (0, 0)).1, (l.getD j (0, 0)).2)] = l.take (j + 1) := by
  rw [show ((l.getD j (0, 0)).1, (l.getD j (0, 0)).2) = l[j] by simp [List.getD, h]]
  exact List.take_append_getElem h
theorem fair_snoc (o : List Stk) (x q : Int) (hf : Fair o) (hl : lastOf o o.length < x) (h1 : 1 ≤ q) (h2 : q ≤ 1125899906842624) : Fair (o ++ [(x, q)]) := fun k hk => by
  rw [List.length_append, List.length_singleton] at hk
  by_cases e : k = o.length
  · subst e
    rw [getD_app_eq, lastOf_app o _ _ (Nat.le_refl _)]
    exact ⟨hl, h1, h2⟩
  · rw [getD_app_lt o _ k (by omega), lastOf_app o _ k (by omega)]
    exact hf k (by omega)
/-- A type was found. -/
theorem ninv_next (l o : List Stk) (La : Int) (hs : Sane l) (h : NInv l o La) (x q : Int) (hx : nk l La l.length = x) (hx0 : ¬ x = 0) (hq : sm l x l.length = q) (hq2 : q ≤ 1125899906842624) :
    msr l x < msr l La ∧ (0 < q → NInv l (o ++ [(x, q)]) x) ∧ (¬ 0 < q → NInv l o x) := by
  obtain ⟨h0, h1, h2, h3, h4⟩ := h
  rcases nk_spec l hs La h0 l.length (Nat.le_refl _) with ⟨n1, n2⟩ | ⟨n1, ⟨i, hi, he⟩, n3⟩
  · omega
  rw [hx] at n1 he n3
  have hm := msr_lt l La x n1 i hi he
  have fairy : Fair l → ∃ j, j < l.length ∧ o = l.take j ∧ La = lastOf l j ∧ x = (l.getD j (0, 0)).1 ∧ q = (l.getD j (0, 0)).2 := by
    intro hf
    obtain ⟨j, hj, ho, hLa⟩ := h4 hf
    have hij : j ≤ i := by
      rcases Nat.lt_or_ge i j with g | g
      · exfalso
        cases j with
        | zero => omega
        | succ j =>
          have e1 : lastOf l (j + 1) = (l.getD j (0, 0)).1 := rfl
          by_cases e : i = j
          · subst e; omega
          · have := fair_lt l hf i j (by omega) (by omega); omega
      · exact g
    have hjl : j < l.length := by omega
    have hT := (hf j hjl).1
    have hle := n3 j hjl (by omega)
    have hxj : (l.getD j (0, 0)).1 = x := by
      by_cases e : i = j
      · subst e; exact he
      · have := fair_lt l hf j i (by omega) hi; omega
    exact ⟨j, hjl, ho, hLa, hxj.symm, by rw [← hq]; exact sm_fair l hf x j _ hjl (Nat.le_refl _) hxj⟩
  refine ⟨hm, fun hq0 => ⟨by omega, fair_snoc o x q h1 (by omega) (by omega) hq2, ?_, ?_, fun hf => ?_⟩, fun hq0 => ⟨by omega, h1, by omega, by omega, fun hf => ?_⟩⟩
  · rw [List.length_append, List.length_singleton]
    show ((o ++ [(x, q)]).getD o.length (0, 0)).1 ≤ x
    rw [getD_app_eq]; exact Int.le_refl _
  · rw [List.length_append, List.length_singleton]; omega
  · obtain ⟨j, hj, ho, hLa, hxj, hqj⟩ := fairy hf
    exact ⟨j + 1, by omega, by rw [ho, hxj, hqj]; exact take_snoc l j hj, hxj⟩
  · obtain ⟨j, hj, ho, hLa, hxj, hqj⟩ := fairy hf
    have := (hf j hj).2.1
    omega
/-- No type is left. -/
theorem ninv_end (l o : List Stk) (La : Int) (hs : Sane l) (h : NInv l o La) (hx : nk l La l.length = 0) : Fair o ∧ (Fair l → o = l) := by
  obtain ⟨h0, h1, h2, h3, h4⟩ := h
  refine ⟨h1, fun hf => ?_⟩
  obtain ⟨j, hj, ho, hLa⟩ := h4 hf
  by_cases e : j = l.length
  · rw [ho, e, List.take_length]
  · exfalso
    rcases nk_spec l hs La h0 l.length (Nat.le_refl _) with ⟨n1, n2⟩ | ⟨n1, n2, n3⟩
    · have := n2 j (by omega)
      have := (hf j (by omega)).1
      omega
    · omega
theorem fair_sane (l : List Stk) (h : Fair l) : Sane l := fun i hi => ⟨fair_pos l h i hi, by have := (h i hi).2.1; omega⟩
/-- What Norm answers. -/
def NPost (w w' : World) (T : TypeId) (l : List Stk) (r : Ending) : Prop :=
  ∃ v e, r = .returned (.tuple #[v, .int .i64 e]) ∧ Below w.heap.size w w' ∧
    ((e = 0 ∧ ∃ o, Fair o ∧ o.length ≤ l.length ∧ w'.ownsRow w.heap.size T 2 v o.length (stkVals o) ∧ (Fair l → o = l)) ∨ (e = 1 ∧ ¬ Fair l) ∨ (e = 5 ∧ ¬ Fair l))
end Rec
end Go.Proofs.Ytiabnjmblcogmaa
end
