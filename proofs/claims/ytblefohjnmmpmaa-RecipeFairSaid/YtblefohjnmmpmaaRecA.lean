/- What must come, whatever the arguments are: the plain blueprint, and the law's own check of it. -/
import Derived.Test.YtblefohjnmmpmaaRecH3
import Derived.Test.YtblefohjnmmpmaaRecG4
import Derived.Test.YtblefohjnmmpmaaRecG3
import Derived.Test.YtblefohjnmmpmaaRecG6
import Derived.Test.YtblefohjnmmpmaaRecG8
import Derived.Test.YtblefohjnmmpmaaRecS
namespace Go.Proofs.Ytblefohjnmmpmaa
open Go.RowKit
namespace Rec
theorem stks_two (W : World) (x1 x2 y1 y2 : Int) (t : TypeId) : Stks (W.alloc (.cells #[.int .i64 x1, .int .i64 x2, .int .i64 y1, .int .i64 y2] t)) (some ⟨W.heap.size, 0, none⟩) [(x1, x2), (y1, y2)] := by
  intro i hi
  refine ⟨W.heap.size, 0, rfl, by rw [World.size_alloc]; omega, ?_⟩
  match i, hi with
  | 0, _ => go_simp
  | 1, _ => go_simp
def plainB (a : Option Addr) : BlueIn := ⟨3, 5, 60, [(1, 10), (2, 1)], a, 2, 7, 100, 20⟩
theorem came_plain {W : World} {a : Option Addr} (h : Stks W a [(1, 10), (2, 1)]) : Came W (plainB a) := by
  refine ⟨by show 2 ≤ 12; omega, h, fun k hk => ?_, rfl⟩
  match k, hk with
  | 0, _ => rfl
  | 1, _ => rfl
theorem plain_any (w : World) : Calls Try.prog 23 #[] w fun e w' => ∃ a, e = .returned (.agg #[.int .i64 3, .int .i64 5, .int .i64 60, .slice a 2 2, .int .i64 7, .int .i64 100, .int .i64 20]) ∧ Hid (Stks w' a [(1, 10), (2, 1)]) ∧ Below w.heap.size w w' := by
  go_enter Try.func23, Try.ntmps23
  go_wp2
  refine bodyPost_ret (by simp [results, Try.results23, go_sem]; rfl) rfl ?_
  refine ⟨_, rfl, ?_, below_al ((Below.refl _ _).alloc (Nat.le_refl _) _) _⟩
  have h := stks_two (w.alloc (.cells #[.int .i64 3, .int .i64 5, .int .i64 60, .slice (some ⟨w.heap.size + 1, 0, none⟩) 2 2, .int .i64 7, .int .i64 100, .int .i64 20] 24)) 1 10 2 1 30
  rw [World.size_alloc] at h
  exact h
theorem aw_needs (a : Option Addr) (W : World) (h : Stks W a [(1, 10), (2, 1)]) : Calls Try.prog 8 #[.agg #[.int .i64 3, .int .i64 5, .int .i64 60, .slice a 2 2, .int .i64 7, .int .i64 100, .int .i64 20], .int .i64 5, .int .i64 3] W fun e w' => (∃ a2 c2, e = .returned (.tuple #[.slice a2 2 c2, .int .i64 0]) ∧ Hid (Stks w' a2 [(1, 29), (2, 3)])) ∧ Below W.heap.size W w' := (needs_any (plainB a) 5 3 W (came_plain h)).mono fun e w' ⟨a2, c2, h1, h2, h3⟩ => by
  have hv : needsV (plainB a) 5 3 = ([(1, 29), (2, 3)], 0) := by rfl
  rw [hv] at h1 h2
  exact ⟨⟨a2, c2, h1, h2⟩, h3⟩
theorem aw_makes (a : Option Addr) (W : World) (h : Stks W a [(1, 10), (2, 1)]) : Calls Try.prog 10 #[.agg #[.int .i64 3, .int .i64 5, .int .i64 60, .slice a 2 2, .int .i64 7, .int .i64 100, .int .i64 20], .int .i64 3] W fun e w' => e = .returned (.tuple #[.agg #[.int .i64 3, .int .i64 15], .int .i64 0]) ∧ Below W.heap.size W w' := (makes_any (plainB a) 3 W (came_plain h)).mono fun e w' ⟨h1, h2⟩ => ⟨by rw [h1]; rfl, h2⟩
theorem aw_time (a : Option Addr) (W : World) (h : Stks W a [(1, 10), (2, 1)]) : Calls Try.prog 12 #[.agg #[.int .i64 3, .int .i64 5, .int .i64 60, .slice a 2 2, .int .i64 7, .int .i64 100, .int .i64 20], .int .i64 10, .int .i64 3] W fun e w' => e = .returned (.tuple #[.int .i64 144, .int .i64 0]) ∧ Below W.heap.size W w' := (time_any (plainB a) 10 3 W (came_plain h)).mono fun e w' ⟨h1, h2⟩ => ⟨by rw [h1]; rfl, h2⟩
theorem aw_study (a : Option Addr) (W : World) (h : Stks W a [(1, 10), (2, 1)]) : Calls Try.prog 18 #[.agg #[.int .i64 3, .int .i64 5, .int .i64 60, .slice a 2 2, .int .i64 7, .int .i64 100, .int .i64 20], .int .i64 2, .int .i64 2] W fun e w' => e = .returned (.tuple #[.int .i64 700, .int .i64 0]) ∧ Below W.heap.size W w' := (study_any (plainB a) 2 2 W (came_plain h)).mono fun e w' ⟨h1, h2⟩ => ⟨by
  have hv : studyV (plainB a) 2 2 = (700, 0) := by unfold studyV wrap64; rfl
  rw [h1, hv], h2⟩
theorem aw_runs (a : Option Addr) (W : World) (h : Stks W a [(1, 10), (2, 1)]) : Calls Try.prog 17 #[.agg #[.int .i64 3, .int .i64 5, .int .i64 60, .slice a 2 2, .int .i64 7, .int .i64 100, .int .i64 20], .int .i64 11] W fun e w' => e = .returned (.tuple #[.int .i64 3, .int .i64 0]) ∧ Below W.heap.size W w' := (runs_any (plainB a) 11 W (came_plain h)).mono fun e w' ⟨h1, h2⟩ => ⟨by rw [h1]; rfl, h2⟩
theorem aw_check (a : Option Addr) (W : World) (h : Stks W a [(1, 10), (2, 1)]) : Calls Try.prog 15 #[.agg #[.int .i64 3, .int .i64 5, .int .i64 60, .slice a 2 2, .int .i64 7, .int .i64 100, .int .i64 20], .int .i64 2] W fun e w' => e = .returned (.int .i64 1) ∧ Below W.heap.size W w' := (check_any (plainB a) 2 W (came_plain h)).mono fun e w' ⟨h1, h2⟩ => ⟨by rw [h1]; rfl, h2⟩
end Rec
end Go.Proofs.Ytblefohjnmmpmaa
