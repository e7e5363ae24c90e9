/- The plain law behind the reference's normal stacks. -/
import Derived.Test.YtblefohjnmmpmaaOwn2
namespace Go.Proofs.Ytblefohjnmmpmaa
open Go.RowKit
namespace Rec
/-- The least type above La of the first k stacks; 0 where there is none. -/
def nk (l : List Stk) (La : Int) : Nat → Int
  | 0 => 0
  | k + 1 => if La < (l.getD k (0, 0)).1 ∧ (nk l La k = 0 ∨ (l.getD k (0, 0)).1 < nk l La k) then (l.getD k (0, 0)).1 else nk l La k
/-- Types and numbers that are not refused at once. -/
def Sane (l : List Stk) : Prop := ∀ i, i < l.length → 1 ≤ (l.getD i (0, 0)).1 ∧ 0 ≤ (l.getD i (0, 0)).2
theorem nk_spec (l : List Stk) (hs : Sane l) (La : Int) (h0 : 0 ≤ La) (k : Nat) (hk : k ≤ l.length) :
    (nk l La k = 0 ∧ ∀ i, i < k → (l.getD i (0, 0)).1 ≤ La) ∨ (La < nk l La k ∧ (∃ i, i < k ∧ (l.getD i (0, 0)).1 = nk l La k) ∧ ∀ i, i < k → La < (l.getD i (0, 0)).1 → nk l La k ≤ (l.getD i (0, 0)).1) := by
  induction k with
  | zero => exact .inl ⟨rfl, fun i hi => by omega⟩
  | succ k ih =>
    have hT := (hs k (by omega)).1
    rw [nk]
    by_cases c : La < (l.getD k (0, 0)).1 ∧ (nk l La k = 0 ∨ (l.getD k (0, 0)).1 < nk l La k)
    · rw [if_pos c]
      refine .inr ⟨c.1, ⟨k, by omega, rfl⟩, fun i hi hLa => ?_⟩
      by_cases e : i = k
      · subst e; exact Int.le_refl _
      · rcases ih (by omega) with ⟨h1, h2⟩ | ⟨h1, h2, h3⟩
        · have := h2 i (by omega); omega
        · have := h3 i (by omega) hLa
          rcases c.2 with c2 | c2 <;> omega
    · rw [if_neg c]
      rcases ih (by omega) with ⟨h1, h2⟩ | ⟨h1, ⟨i, hi, he⟩, h3⟩
      · refine .inl ⟨h1, fun i hi => ?_⟩
        by_cases e : i = k
        · subst e
          by_cases g : La < (l.getD i (0, 0)).1
          · exact absurd ⟨g, .inl h1⟩ c
          · omega
        · exact h2 i (by omega)
      · refine .inr ⟨h1, ⟨i, by omega, he⟩, fun i hi hLa => ?_⟩
        by_cases e : i = k
        · subst e
          by_cases g : (l.getD i (0, 0)).1 < nk l La i
          · exact absurd ⟨hLa, .inr g⟩ c
          · omega
        · exact h3 i (by omega) hLa
/-- The sum of a type among the first k stacks. -/
def sm (l : List Stk) (x : Int) : Nat → Int
  | 0 => 0
  | k + 1 => if (l.getD k (0, 0)).1 = x then sm l x k + (l.getD k (0, 0)).2 else sm l x k
theorem sm_none (l : List Stk) (x : Int) (k : Nat) (h : ∀ j, j < k → (l.getD j (0, 0)).1 ≠ x) : sm l x k = 0 := by
  induction k with
  | zero => rfl
  | succ k ih => rw [sm, if_neg (h k (by omega)), ih fun j hj => h j (by omega)]
theorem sm_fair (l : List Stk) (hf : Fair l) (x : Int) (j k : Nat) (hj : j < k) (hk : k ≤ l.length) (e : (l.getD j (0, 0)).1 = x) : sm l x k = (l.getD j (0, 0)).2 := by
  induction k with
  | zero => omega
  | succ k ih =>
    rw [sm]
    by_cases ejk : j = k
    · subst ejk
      rw [if_pos e, sm_none l x j fun i hi => by have := fair_lt l hf i j hi (by omega); omega, Int.zero_add]
    · have := fair_lt l hf j k (by omega) (by omega)
      rw [if_neg (by omega)]
      exact ih (by omega) (by omega)
theorem sm_fair_le (l : List Stk) (hf : Fair l) (x : Int) (k : Nat) (hk : k < l.length) (e : (l.getD k (0, 0)).1 = x) : sm l x k = 0 :=
  sm_none l x k fun i hi => by have := fair_lt l hf i k hi hk; omega
/-- How many stacks are of types above La. -/
def msr (l : List Stk) (La : Int) : Nat := l.countP fun s => decide (La < s.1)
theorem msr_le (l : List Stk) (La x : Int) (h : La < x) : msr l x ≤ msr l La := by
  unfold msr
  exact List.countP_mono_left fun s _ hs => by simp only [decide_eq_true_eq] at hs ⊢; omega
theorem msr_lt (l : List Stk) (La x : Int) (h : La < x) (i : Nat) (hi : i < l.length) (e : (l.getD i (0, 0)).1 = x) : msr l x < msr l La := by
  induction l generalizing i with
  | nil => simp at hi
  | cons a l ih =>
    unfold msr at ih ⊢
    rw [List.countP_cons, List.countP_cons]
    cases i with
    | zero =>
      have hm := msr_le l La x h
      unfold msr at hm
      have e' : a.1 = x := e
      have g1 : La < a.1 := by omega
      have g2 : ¬ x < a.1 := by omega
      rw [if_neg (by simpa using g2), if_pos (by simpa using g1)]
      omega
    | succ i =>
      have := ih i (by simpa using hi) e
      by_cases g : x < a.1
      · have g1 : La < a.1 := by omega
        rw [if_pos (by simpa using g), if_pos (by simpa using g1)]; omega
      · rw [if_neg (by simpa using g)]
        split <;> omega
theorem getD_app_lt (o : List Stk) (s : Stk) (i : Nat) (h : i < o.length) : (o ++ [s]).getD i (0, 0) = o.getD i (0, 0) := by
  simp [List.getD, List.getElem?_append_left h]
theorem getD_app_eq (o : List Stk) (s : Stk) : (o ++ [s]).getD o.length (0, 0) = s := by
  simp [List.getD]
theorem lastOf_app (o : List Stk) (s : Stk) (k : Nat) (h : k ≤ o.length) : lastOf (o ++ [s]) k = lastOf o k := by
  cases k with
  | zero => rfl
  | succ k => show ((o ++ [s]).getD k (0, 0)).1 = _; rw [getD_app_lt o s k (by omega)]; rfl
/-- What holds behind some rounds: the stacks that were found, and the last type. -/
def NInv (l o : List Stk) (La : Int) : Prop :=
  0 ≤ La ∧ Fair o ∧ lastOf o o.length ≤ La ∧ o.length + msr l La ≤ l.length ∧ (Fair l → ∃ j, j ≤ l.length ∧ o = l.take j ∧ La = lastOf l j)
theorem ninv_start (l : List Stk) : NInv l [] 0 :=
  ⟨Int.le_refl 0, fun k hk => by simp at hk, Int.le_refl 0, by unfold msr; simpa using List.countP_le_length, fun _ => ⟨0, by omega, rfl, rfl⟩⟩
theorem take_snoc (l : List Stk) (j : Nat) (h : j < l.length) : l.take j ++ [((l.getD j (0, 0)).1, (l.getD j (0, 0)).2)] = l.take (j + 1) := by
  rw [show ((l.getD j (0, 0)).1, (l.getD j (0, 0)).2) = l[j] by simp [List.getD, h]]
  exact List.take_append_getElem h
theorem fair_snoc (o : List Stk) (x q : Int) (hf : Fair o) (hl : lastOf o o.length < x) (h1 : 1 ≤ q) (h2 : q ≤ 1125899906842624) : Fair (o ++ [(x, q)]) := fun k hk => by
  rw [List.length_append, List.length_singleton] at hk
  by_cases e : k = o.length
  · subst e
    rw [getD_app_eq, lastOf_app o _ _ (Nat.le_refl _)]
    exact ⟨hl, h1, h2⟩
  · rw [getD_app_lt o _ k (by omega), lastOf_app o _ k (by omega)]
    exact hf k (by omega)
/-- A type was found. -/
theorem ninv_next (l o : List Stk) (La : Int) (hs : Sane l) (h : NInv l o La) (x q : Int) (hx : nk l La l.length = x) (hx0 : ¬ x = 0) (hq : sm l x l.length = q) (hq2 : q ≤ 1125899906842624) :
    msr l x < msr l La ∧ (0 < q → NInv l (o ++ [(x, q)]) x) ∧ (¬ 0 < q → NInv l o x) := by
  obtain ⟨h0, h1, h2, h3, h4⟩ := h
  rcases nk_spec l hs La h0 l.length (Nat.le_refl _) with ⟨n1, n2⟩ | ⟨n1, ⟨i, hi, he⟩, n3⟩
  · omega
  rw [hx] at n1 he n3
  have hm := msr_lt l La x n1 i hi he
  have fairy : Fair l → ∃ j, j < l.length ∧ o = l.take j ∧ La = lastOf l j ∧ x = (l.getD j (0, 0)).1 ∧ q = (l.getD j (0, 0)).2 := by
    intro hf
    obtain ⟨j, hj, ho, hLa⟩ := h4 hf
    have hij : j ≤ i := by
      rcases Nat.lt_or_ge i j with g | g
      · exfalso
        cases j with
        | zero => omega
        | succ j =>
          have e1 : lastOf l (j + 1) = (l.getD j (0, 0)).1 := rfl
          by_cases e : i = j
          · subst e; omega
          · have := fair_lt l hf i j (by omega) (by omega); omega
      · exact g
    have hjl : j < l.length := by omega
    have hT := (hf j hjl).1
    have hle := n3 j hjl (by omega)
    have hxj : (l.getD j (0, 0)).1 = x := by
      by_cases e : i = j
      · subst e; exact he
      · have := fair_lt l hf j i (by omega) hi; omega
    exact ⟨j, hjl, ho, hLa, hxj.symm, by rw [← hq]; exact sm_fair l hf x j _ hjl (Nat.le_refl _) hxj⟩
  refine ⟨hm, fun hq0 => ⟨by omega, fair_snoc o x q h1 (by omega) (by omega) hq2, ?_, ?_, fun hf => ?_⟩, fun hq0 => ⟨by omega, h1, by omega, by omega, fun hf => ?_⟩⟩
  · rw [List.length_append, List.length_singleton]
    show ((o ++ [(x, q)]).getD o.length (0, 0)).1 ≤ x
    rw [getD_app_eq]; exact Int.le_refl _
  · rw [List.length_append, List.length_singleton]; omega
  · obtain ⟨j, hj, ho, hLa, hxj, hqj⟩ := fairy hf
    exact ⟨j + 1, by omega, by rw [ho, hxj, hqj]; exact take_snoc l j hj, hxj⟩
  · obtain ⟨j, hj, ho, hLa, hxj, hqj⟩ := fairy hf
    have := (hf j hj).2.1
    omega
/-- No type is left. -/
theorem ninv_end (l o : List Stk) (La : Int) (hs : Sane l) (h : NInv l o La) (hx : nk l La l.length = 0) : Fair o ∧ (Fair l → o = l) := by
  obtain ⟨h0, h1, h2, h3, h4⟩ := h
  refine ⟨h1, fun hf => ?_⟩
  obtain ⟨j, hj, ho, hLa⟩ := h4 hf
  by_cases e : j = l.length
  · rw [ho, e, List.take_length]
  · exfalso
    rcases nk_spec l hs La h0 l.length (Nat.le_refl _) with ⟨n1, n2⟩ | ⟨n1, n2, n3⟩
    · have := n2 j (by omega)
      have := (hf j (by omega)).1
      omega
    · omega
theorem fair_sane (l : List Stk) (h : Fair l) : Sane l := fun i hi => ⟨fair_pos l h i hi, by have := (h i hi).2.1; omega⟩
/-- What Norm answers. -/
def NPost (w w' : World) (T : TypeId) (l : List Stk) (r : Ending) : Prop :=
  ∃ v e, r = .returned (.tuple #[v, .int .i64 e]) ∧ Below w.heap.size w w' ∧
    ((e = 0 ∧ ∃ o, Fair o ∧ o.length ≤ l.length ∧ w'.ownsRow w.heap.size T 2 v o.length (stkVals o) ∧ (Fair l → o = l)) ∨ (e = 1 ∧ ¬ Fair l) ∨ (e = 5 ∧ ¬ Fair l))
end Rec
end Go.Proofs.Ytblefohjnmmpmaa
