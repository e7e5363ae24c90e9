/- How many runs, how long runs, study and copies take: the package and the reference answer alike. -/
import Derived.Test.YtblefohjnmmpmaaRecG8
import Derived.Test.YtblefohjnmmpmaaRecW
namespace Go.Proofs.Ytblefohjnmmpmaa
open Go.RowKit
namespace Rec
/-- The k-th need of so many runs at a level. -/
def nd (l : List Stk) (x y : Int) (k : Nat) : Int := max (upI ((l.getD k (0, 0)).2 * (y * (100 - x))) 100) y
/-- The first k needs. -/
def nds (l : List Stk) (x y : Int) : Nat → List Stk
  | 0 => []
  | k + 1 => nds l x y k ++ [((l.getD k (0, 0)).1, nd l x y k)]
/-- None of the first k is too large. -/
def ndsOk (l : List Stk) (x y : Int) : Nat → Bool
  | 0 => true
  | k + 1 => ndsOk l x y k && decide (nd l x y k ≤ 1125899906842624)
theorem nds_length (l : List Stk) (x y : Int) (k : Nat) : (nds l x y k).length = k := by
  induction k with
  | zero => rfl
  | succ k ih => rw [nds, List.length_append, ih]; rfl
theorem ndsOk_no (l : List Stk) (x y : Int) (k j : Nat) (h : ¬ nd l x y k ≤ 1125899906842624) (hj : k < j) : ndsOk l x y j = false := by
  induction j with
  | zero => omega
  | succ j ih =>
    rw [ndsOk]
    by_cases e : k = j
    · subst e; rw [decide_eq_false h]; simp
    · rw [ih (by omega)]; rfl
/-- What Needs answers. -/
def needsV (b : BlueIn) (x y : Int) : List Stk × Int := if ok2 b x 0 10 y 1 1000 then (if ndsOk b.needs x y b.needs.length then (nds b.needs x y b.needs.length, 0) else ([], 5)) else ([], 1)
/-- So it answers it. -/
def NeedsPost (w w' : World) (V : List Stk × Int) (e : Ending) : Prop := ∃ a cap, e = .returned (.tuple #[.slice a V.1.length cap, .int .i64 V.2]) ∧ Stks w' a V.1 ∧ Below w.heap.size w w'
theorem stks_nil (w : World) : Stks w none [] := fun i hi => absurd hi (by simp)
end Rec
end Go.Proofs.Ytblefohjnmmpmaa
