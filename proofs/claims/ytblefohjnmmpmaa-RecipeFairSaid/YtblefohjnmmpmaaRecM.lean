/- How many there are of a type, of stacks that may be. -/
import Derived.Test.YtblefohjnmmpmaaRecP
import Derived.Maps.OwnOps
import Derived.Maps.Views
import Derived.WalkArith
import Derived.BigQuiet
namespace Go.Proofs.Ytblefohjnmmpmaa
open Go.RowKit Go.Maps
namespace Rec
theorem goodTo_all (l : List Stk) (types : Int) (n : Nat) (h : goodTo l types n = true) (k : Nat) (hk : k < n) : good l types k = true := by
  cases hg : good l types k
  · rw [goodTo_no l types k n hg hk] at h; cases h
  · rfl
/-- What holds of each stack of such a list. -/
def Fair (l : List Stk) : Prop := ∀ k, k < l.length → lastOf l k < (l.getD k (0, 0)).1 ∧ 1 ≤ (l.getD k (0, 0)).2 ∧ (l.getD k (0, 0)).2 ≤ 1125899906842624
theorem good_iff (l : List Stk) (types : Int) (k : Nat) : good l types k = true ↔ lastOf l k < (l.getD k (0, 0)).1 ∧ (l.getD k (0, 0)).1 ≤ types ∧ 1 ≤ (l.getD k (0, 0)).2 ∧ (l.getD k (0, 0)).2 ≤ 1125899906842624 := by
  unfold good; simp only [Bool.and_eq_true, decide_eq_true_eq]
theorem fair_of (l : List Stk) (types : Int) (h : goodTo l types l.length = true) : Fair l := fun k hk => by
  have := (good_iff l types k).1 (goodTo_all l types _ h k hk)
  exact ⟨this.1, this.2.2.1, this.2.2.2⟩
theorem fair_last (l : List Stk) (h : Fair l) (k : Nat) (hk : k ≤ l.length) : 0 ≤ lastOf l k := by
  induction k with
  | zero => exact Int.le_refl 0
  | succ k ih => have := ih (by omega); have := (h k (by omega)).1; show 0 ≤ (l.getD k (0, 0)).1; omega
theorem fair_pos (l : List Stk) (h : Fair l) (k : Nat) (hk : k < l.length) : 1 ≤ (l.getD k (0, 0)).1 := by
  have := fair_last l h k (by omega); have := (h k hk).1; omega
theorem fair_lt (l : List Stk) (h : Fair l) (j k : Nat) (hjk : j < k) (hk : k < l.length) : (l.getD j (0, 0)).1 < (l.getD k (0, 0)).1 := by
  induction k with
  | zero => omega
  | succ k ih =>
    have h1 := (h (k + 1) hk).1
    by_cases e : j = k
    · subst e; exact h1
    · have h2 := ih (by omega) (by omega)
      have h3 : lastOf l (k + 1) = (l.getD k (0, 0)).1 := rfl
      omega
/-- How many there are of a type among the first k stacks. -/
def cnt (l : List Stk) (x : Int) : Nat → Int
  | 0 => 0
  | k + 1 => if (l.getD k (0, 0)).1 = x then (l.getD k (0, 0)).2 else cnt l x k
theorem cnt_none (l : List Stk) (x : Int) (k : Nat) (h : ∀ j, j < k → (l.getD j (0, 0)).1 ≠ x) : cnt l x k = 0 := by
  induction k with
  | zero => rfl
  | succ k ih => rw [cnt, if_neg (h k (by omega)), ih fun j hj => h j (by omega)]
theorem cnt_some (l : List Stk) (h : Fair l) (x : Int) (j k : Nat) (hj : j < k) (hk : k ≤ l.length) (e : (l.getD j (0, 0)).1 = x) : cnt l x k = (l.getD j (0, 0)).2 := by
  induction k with
  | zero => omega
  | succ k ih =>
    rw [cnt]
    by_cases ejk : j = k
    · subst ejk; rw [if_pos e]
    · have := fair_lt l h j k (by omega) (by omega)
      rw [if_neg (by omega)]
      exact ih (by omega) (by omega)
def DM (l : List Stk) : Nat → DataW Unit
  | 0 => .map []
  | k + 1 => (DM l k).put (.int .i64 (l.getD k (0, 0)).1) (.lit (.int .i64 (l.getD k (0, 0)).2))
theorem dm_isMap (l : List Stk) (k : Nat) : IsMap (DM l k) := by
  cases k with
  | zero => exact isMap_empty
  | succ k =>
    have : IsMap (DM l k) := by
      induction k with
      | zero => exact isMap_empty
      | succ k ih => exact ih.put _ _
    exact this.put _ _
theorem dm_at (l : List Stk) (x : Int) (k : Nat) : (DM l k).atKey (.int .i64 x) (.lit (.int .i64 0)) = .lit (.int .i64 (cnt l x k)) := by
  induction k with
  | zero => rfl
  | succ k ih =>
    rw [DM, cnt]
    by_cases e : (l.getD k (0, 0)).1 = x
    · rw [if_pos e, e, atKey_put_same (dm_isMap l k) (show WideAt.IsKeyLit (.int .i64 x) from trivial)]
    · rw [if_neg e, atKey_put_other (fun h => e (by injection h with h1 h2; exact h2.symm)), ih]
set_option maxHeartbeats 400000 in
theorem add_small (a b : Int) (ha : 0 ≤ a) (hb : 0 ≤ b) (hs : a + b ≤ 9223372036854775807) (w : World) :
    Calls Try.prog 40 #[.int .i64 a, .int .i64 b] w fun e w' => e = .returned (.tuple #[.int .i64 (a + b), .int .i64 0]) ∧ w = w' := by
  obtain ⟨s, hsd⟩ : ∃ s : Int, wrap64 (a + b) = s := ⟨_, rfl⟩
  have hs1 : Hid (s = a + b) := by show s = _; rw [← hsd]; unfold wrap64; omega
  have da : decide (0 ≤ a) = true := decide_eq_true ha
  have db : decide (0 ≤ b) = true := decide_eq_true hb
  have ds : decide (0 ≤ s) = true := decide_eq_true (by have := hs1.out; omega)
  have hws : Hid (wrap64 s = s) := by show _ = _; have := hs1.out; unfold wrap64; omega
  clear hs
  go_enter Try.func40, Try.ntmps40
  go_wp2
  go_ret2
  exact ⟨by rw [← hs1.out]; first | rfl | exact congrArg (fun x => Ending.returned (.tuple #[.int .i64 x, .int .i64 0])) hws.out, rfl⟩
/-- The closure: is a stack none? Of a stack that may be: it is not. -/
theorem counts1_no (T Q : Int) (h1 : 1 ≤ T) (h2 : 0 ≤ Q) (w : World) :
    Calls Try.prog 39 #[.agg #[.int .i64 T, .int .i64 Q]] w fun e w' => e = .returned (.bool false) ∧ Below w.heap.size w w' := by
  have d1 : decide (T < 1) = false := decide_eq_false (by omega)
  have d2 : decide (Q < 0) = false := decide_eq_false (by omega)
  have n1 : ¬ T < 1 := by omega
  have n2 : ¬ Q < 0 := by omega
  clear h1 h2
  go_enter Try.func39, Try.ntmps39
  go_wp2
  go_ret
  exact ⟨rfl, (Below.refl _ _).alloc (Nat.le_refl _) _⟩
set_option maxHeartbeats 1000000 in
theorem index_no (a : Option Addr) (cap : Nat) (l : List Stk) (hl : l.length ≤ maxLen) (hf : Fair l) (w : World) (ha : Stks w a l) :
    Calls Try.prog 42 #[.slice a l.length cap, .func (.func 39) #[] #[]] w fun e w' => e = .returned (.int .i64 (-1)) ∧ Below w.heap.size w w' := by
  unfold maxLen at hl
  have HA := Lib.hid ha
  have HF := Lib.hid hf
  clear ha hf
  go_enter Try.func42, Try.ntmps42
  go_wp2
  go_loopw [8] (fun i wr => ∃ k : Nat, k ≤ l.length ∧ i = .int .i64 k ∧ Below w.heap.size w wr) (fun i _ => l.length - (intOf i).toNat)
  case atStart => exact ⟨0, by omega, rfl, Below.refl _ _⟩
  case round =>
    obtain ⟨k, hk, rfl, hb⟩ := hrel
    by_cases hlt : k < l.length
    · obtain ⟨b, off, rfl, hbl, hc, hd⟩ := (Stks.below HA.out hb) k hlt
      have hlt1 : (k : Int) < (l.length : Int) := by omega
      have hp := fair_pos l HF.out k hlt
      have hq := (HF.out k hlt).2.1
      generalize (l.getD k (0, 0)).1 = T at *
      generalize (l.getD k (0, 0)).2 = Q at *
      have CC := Lib.hid (counts1_no T Q hp (by omega))
      clear hp hq
      go_wp2_with (go_at_call 39; ((with_reducible refine (CC.out _).mono ?_); rintro e w1 ⟨rfl, hb1⟩))
      go_roundw
      case rel => exact ⟨k + 1, by omega, by go_num, below2 hb hb1⟩
      case measure => simp [intOf]; omega
    · have hke : k = l.length := by omega
      clear hke
      go_wp2
      go_ret
      exact ⟨rfl, hb⟩
theorem contains_no (a : Option Addr) (cap : Nat) (l : List Stk) (hl : l.length ≤ maxLen) (hf : Fair l) (w : World) (ha : Stks w a l) :
    Calls Try.prog 38 #[.slice a l.length cap, .func (.func 39) #[] #[]] w fun e w' => e = .returned (.bool false) ∧ Below w.heap.size w w' := by
  have CC := Lib.hid (index_no a cap l hl hf w ha)
  clear hl hf ha
  go_enter Try.func38, Try.ntmps38
  go_wp2_with (go_at_call 42; ((with_reducible refine CC.out.mono ?_); rintro e w1 ⟨rfl, hb1⟩))
  go_ret
  exact ⟨rfl, hb1⟩
end Rec
end Go.Proofs.Ytblefohjnmmpmaa
