/- What Split answers; and the parts' row ahead of the sort and behind it. -/
import Derived.Test.YtbfcgaijplhcoaaFeeP
import Derived.Test.YtbfcgaijplhcoaaRow
import Derived.Test.YtbfcgaijplhcoaaFeeO
namespace Go.Proofs.Ytbfcgaijplhcoaa
open Go.Sort Go.RowKit
namespace Fee
def wN (l : List Int) (i : Nat) : Nat := (l.getD i 0).toNat
def shI (n s : Nat) (l : List Int) (i : Nat) : Nat := n * wN l i / s
def lfI (n s : Nat) (l : List Int) (i : Nat) : Nat := n * wN l i % s
def shTo (n s : Nat) (l : List Int) (k : Nat) : List Int := (List.range k).map fun (i : Nat) => (shI n s l i : Int)
def lfTo (n s : Nat) (l : List Int) (k : Nat) : List Int := (List.range k).map fun (i : Nat) => (lfI n s l i : Int)
def ptTo (n s : Nat) (l : List Int) (k : Nat) : List (Int × Int) := (List.range k).map fun (i : Nat) => ((i : Int), (lfI n s l i : Int))
theorem shTo_succ (n s : Nat) (l : List Int) (k : Nat) : shTo n s l (k + 1) = shTo n s l k ++ [(shI n s l k : Int)] := by simp [shTo, List.range_succ]
theorem lfTo_succ (n s : Nat) (l : List Int) (k : Nat) : lfTo n s l (k + 1) = lfTo n s l k ++ [(lfI n s l k : Int)] := by simp [lfTo, List.range_succ]
theorem ptTo_succ (n s : Nat) (l : List Int) (k : Nat) : ptTo n s l (k + 1) = ptTo n s l k ++ [((k : Int), (lfI n s l k : Int))] := by simp [ptTo, List.range_succ]
theorem shTo_len (n s : Nat) (l : List Int) (k : Nat) : (shTo n s l k).length = k := by simp [shTo]
theorem lfTo_len (n s : Nat) (l : List Int) (k : Nat) : (lfTo n s l k).length = k := by simp [lfTo]
theorem ptTo_len (n s : Nat) (l : List Int) (k : Nat) : (ptTo n s l k).length = k := by simp [ptTo]
theorem shTo_get (n s : Nat) (l : List Int) (k i : Nat) (h : i < k) : (shTo n s l k).getD i 0 = (shI n s l i : Int) := by simp [shTo, List.getD_eq_getElem?_getD, h]
theorem lfTo_get (n s : Nat) (l : List Int) (k i : Nat) (h : i < k) : (lfTo n s l k).getD i 0 = (lfI n s l i : Int) := by simp [lfTo, List.getD_eq_getElem?_getD, h]
theorem ptTo_eq (n s : Nat) (l : List Int) (k : Nat) : ptTo n s l k = parts0 (lfTo n s l k) := by
  unfold parts0 ptTo
  rw [lfTo_len]
  apply List.map_congr_left
  intro i hi
  rw [lfTo_get n s l k i (by simpa using hi)]
/-- How many shares get one more. -/
def moN (n s : Nat) (l : List Int) : Nat := n - sN (shI n s l) l.length
def ordL (n s : Nat) (l : List Int) : List (Int × Int) := order (lfTo n s l l.length)
def outV (n s : Nat) (l : List Int) : List Int := incs (shTo n s l l.length) (ordL n s l) (moN n s l)
theorem ordL_ranked (n s : Nat) (l : List Int) : Ranked (lfTo n s l l.length) (ordL n s l) := order_ranked _
theorem outV_len (n s : Nat) (l : List Int) : (outV n s l).length = l.length := by unfold outV; rw [incs_len, shTo_len]
/-- The weights, that may be. -/
structure Good (n s : Nat) (l : List Int) : Prop where
  len1 : 1 ≤ l.length
  len2 : l.length ≤ 16
  mon : monTo l l.length = true
  sum : smTo l l.length = (s : Int)
  s1 : 1 ≤ s
  s2 : s ≤ 1152921504606846976
  n2 : n ≤ 1152921504606846976
theorem Good.at {n s : Nat} {l : List Int} (h : Good n s l) {i : Nat} (hi : i < l.length) : ((wN l i : Nat) : Int) = l.getD i 0 ∧ wN l i ≤ 1152921504606846976 := by
  have := inR_yes (monTo_at l l.length i h.mon hi)
  unfold wN
  omega
theorem Good.sumTo {n s : Nat} {l : List Int} (h : Good n s l) {k : Nat} (hk : k ≤ l.length) : smTo l k = ((sN (wN l) k : Nat) : Int) := by
  induction k with
  | zero => rfl
  | succ k ih =>
    have := (h.at (show k < l.length by omega)).1
    rw [smTo, sN, ih (by omega)]; omega
theorem Good.sumN {n s : Nat} {l : List Int} (h : Good n s l) : sN (wN l) l.length = s := by
  have := h.sumTo (Nat.le_refl _)
  rw [h.sum] at this
  omega
theorem Good.w_le {n s : Nat} {l : List Int} (h : Good n s l) {i : Nat} (hi : i < l.length) : wN l i ≤ s := by
  have h1 := sN_mono (wN l) (show i + 1 ≤ l.length by omega)
  rw [h.sumN, sN] at h1
  omega
theorem Good.more {n s : Nat} {l : List Int} (h : Good n s l) : sN (shI n s l) l.length ≤ n ∧ moN n s l < l.length :=
  more_bd n s (wN l) l.length h.sumN h.s1 h.len1
theorem partVals_get (l : List (Int × Int)) (i : Nat) (h : i < l.length) : (partVals l)[i * 2]? = some (.int .i64 (l.getD i (0, 0)).1) ∧ (partVals l)[i * 2 + 1]? = some (.int .u64 (l.getD i (0, 0)).2) := by
  induction l generalizing i with
  | nil => simp at h
  | cons a l ih =>
    cases i with
    | zero => exact ⟨rfl, rfl⟩
    | succ i =>
      have := ih i (by simpa using h)
      have e1 : (i + 1) * 2 = i * 2 + 1 + 1 := by omega
      rw [e1]
      exact this
theorem holds_of_row {w : World} {g : Nat} {l : List (Int × Int)} (h : RowAt w g (partVals l)) : HoldsK encP 2 w g 0 l.toArray := by
  intro t ht
  rw [size_flatK] at ht
  refine ⟨?_, h.frozen _⟩
  rw [get_flatK _ _ _ _ ht, Nat.zero_add]
  have hs : t < l.length * 2 := by simpa using ht
  have hg := partVals_get l (t / 2) (by omega)
  have hd : l.toArray[t / 2]! = l.getD (t / 2) (0, 0) := by
    rw [← bang (by simp; omega)]
  rw [hd]
  rcases Nat.mod_two_eq_zero_or_one t with e | e
  · rw [e]
    refine h.cell ?_
    have : t = t / 2 * 2 := by omega
    conv => lhs; rw [this]
    exact hg.1
  · rw [e]
    refine h.cell ?_
    have : t = t / 2 * 2 + 1 := by omega
    conv => lhs; rw [this]
    exact hg.2
theorem grown_sorted {w : World} {g n : Nat} {os : Array Obj} (d : Array (Int × Int)) : w.grownBy (sortWorldK encP 2 w g 0 n d os) (some g) := by
  refine ⟨rfl, rfl, rfl, by unfold sortWorldK putRowK; simp, fun k hk hne => ?_⟩
  unfold sortWorldK putRowK
  rw [heap_grow_old _ _ (by simpa using hk)]
  have : g ≠ k := fun e => hne (by rw [e])
  simp [putRow, mapBlock, Sort.ahead, Array.getElem?_modify, this]
/-- Behind the sort: part p's cells. -/
theorem sorted_cells {w : World} {g : Nat} {l : List (Int × Int)} {d : Array (Int × Int)} {n : Nat} {os : Array Obj} (h : RowAt w g (partVals l)) (hd : d.size = l.length) (p : Nat) (hp : p < l.length) :
    (sortWorldK encP 2 w g 0 n d os).cell? ⟨g, p * 2, none⟩ = some (.int .i64 (d.toList.getD p (0, 0)).1) ∧ (sortWorldK encP 2 w g 0 n d os).cell? ⟨g, p * 2 + 1, none⟩ = some (.int .u64 (d.toList.getD p (0, 0)).2) := by
  have hH := holdsK_sortWorldK_c encP 2 w g 0 l.toArray d n os (holds_of_row h) h.lt (by simpa using hd)
  have c0 := (hH.cell (i := p) (c := 0) (by omega) (by omega)).1
  have c1 := (hH.cell (i := p) (c := 1) (by omega) (by omega)).1
  rw [bang (by omega)]
  simp only [Nat.zero_add, Nat.add_zero] at c0 c1
  exact ⟨c0, c1⟩
end Fee
end Go.Proofs.Ytbfcgaijplhcoaa
