/- Texts put together: QuoM1. -/
import Derived.Test.YtiabnjmblcogmaaM28
set_option linter.all false
section
namespace Go.Proofs.Ytiabnjmblcogmaa
open Go.RowKit
namespace Quo
open Cat (CatIn BayIn chkC nob noy Cam Lies Blues Bays IsCat Small Box box_new box_b box_next)
open Rec (BlueIn Stk Stks stkVals)
open Pen (below2 below_al below_dN)
theorem planV_cases (c : CatIn) (bay : Int) (l : List Int) (level : Int) : ((planV c bay l level).2 ≠ 0 ∧ (planV c bay l level).1 = []) ∨ ((planV c bay l level).2 = 0 ∧ mayV c bay l level = 0 ∧ ∃ S, (planV c bay l level).1 = S.out ∧ PI (pcOf c bay l level) S ∧ PW (pcOf c bay l level) 109951162777600099 S ∧ left (pcOf c bay l level) S = 0) := by
  unfold planV
  by_cases hm : mayV c bay l level = 0
  · rw [if_neg (by simpa using hm)]
    by_cases hj : 0 < jobsN (pcOf c bay l level) ∧ makeOf c bay = 0
    · rw [if_pos hj]
      exact .inl ⟨(by decide : (10 : Int) ≠ 0), rfl⟩
    · rw [if_neg hj]
      cases hp : planTo (pcOf c bay l level) (2 * c.blues.length + 1) (ps0 c.blues.length) with
      | none => exact .inl ⟨(by decide : (9 : Int) ≠ 0), rfl⟩
      | some o =>
        obtain ⟨hK, hb1, hb2, hr, -, -⟩ := mayV_ok hm
        have hmk := (bay_of hK (i := bay.toNat - 1) (by omega)).1
        obtain ⟨S, h1, h2, h3, h4⟩ := plan_end (pcOf_time c bay l level) (pcOf_pos hm) _ (ps0 c.blues.length) o (PI.start (pcOf c bay l level) hmk.1 fun k => (pcOf_time c bay l level k).1) (PW.start _ _) hp
        exact .inr ⟨rfl, hm, S, h1, h2, h3, h4⟩
  · rw [if_pos hm]
    exact .inl ⟨hm, rfl⟩
theorem planV_len (c : CatIn) (bay : Int) (l : List Int) (level : Int) : (planV c bay l level).1.length ≤ c.blues.length := by
  rcases planV_cases c bay l level with ⟨-, h⟩ | ⟨-, -, S, h, -, hw, -⟩
  · rw [h]; exact Nat.zero_le _
  · rw [h, hw.lo]; exact Nat.le_refl _
/-- The catalogue and the two numbers in boxes of their own. -/
def Box2 (w : World) (c : CatIn) (x y : Int) (W : World) : Prop := Box w c W ∧ w.heap.size + 1 < W.heap.size ∧ W.cell? ⟨w.heap.size + 1, 0, none⟩ = some (.int .i64 x) ∧ W.cell? ⟨w.heap.size + 1, 1, none⟩ = some (.int .i64 y)
theorem box2_new (w : World) (c : CatIn) (x y : Int) (t u : TypeId) : Box2 w c x y ((w.alloc (.cells c.val t)).alloc (.cells #[.int .i64 x, .int .i64 y] u)) :=
  ⟨box_next (box_new w c t) (below_al (Below.refl _ _) _), by simp, by go_simp, by go_simp⟩
theorem box2_next {w W W' : World} {c : CatIn} {x y : Int} (h : Box2 w c x y W) (hb : Below W.heap.size W W') : Box2 w c x y W' :=
  ⟨box_next h.1 hb, Nat.lt_of_lt_of_le h.2.1 hb.size, (hb.cell (p := ⟨w.heap.size + 1, 0, none⟩) h.2.1).trans h.2.2.1, (hb.cell (p := ⟨w.heap.size + 1, 1, none⟩) h.2.1).trans h.2.2.2⟩
theorem box2_b {w W : World} {c : CatIn} {x y : Int} (h : Box2 w c x y W) : Below w.heap.size w W := h.1.1
/-- What came in. -/
structure CatCame (w : World) (c : CatIn) : Prop where
  lies : Lies w c
  nums : Cat.Nums c
  bl : c.blues.length ≤ maxLen
  yl : c.bays.length ≤ maxLen
  nl : ∀ i, i < c.blues.length → (c.blues.getD i nob).needs.length ≤ maxLen
theorem CatCame.cam {w : World} {c : CatIn} (h : CatCame w c) (hs : Small c) : Cam w c := ⟨h.lies, hs, h.nums⟩
end Quo
end Go.Proofs.Ytiabnjmblcogmaa
end
