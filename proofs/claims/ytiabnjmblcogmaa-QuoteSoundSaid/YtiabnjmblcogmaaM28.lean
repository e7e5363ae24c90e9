/- Texts put together: QuoAa, QuoAb, QuoAw, CatU, CatU2, CatO, QuoAr. -/
import Derived.Test.YtiabnjmblcogmaaM27
import Derived.Test.YtiabnjmblcogmaaM15
import Derived.Test.YtiabnjmblcogmaaM10
import Derived.Test.YtiabnjmblcogmaaM01
import Derived.Deep.QuietTactic
import Derived.BigQuiet
import Derived.ChangeSlices
import Derived.Deep.SlicePairs
import Derived.Deep.Fields
import Derived.Test.YtiabnjmblcogmaaM11
set_option linter.all false
section
namespace Go.Proofs.Ytiabnjmblcogmaa
open Go.RowKit
namespace Quo
open Cat (CatIn BayIn chkC nob noy)
open Rec (BlueIn Stk Stks stkVals)
def plainQ (a1 a2 a3 ba ya : Option Addr) : CatIn := ⟨4, [⟨2, 5, 10, [(1, 3)], a1, 1, 0, 0, 5⟩, ⟨3, 1, 7, [(2, 2)], a2, 1, 0, 0, 5⟩, ⟨4, 1, 5, [(1, 2)], a3, 1, 0, 0, 5⟩], ba, 3, 1, [⟨1, 2, 0, 2000⟩, ⟨1, 1, 0, 500⟩], ya, 2, 1, 0, 0, 0⟩
set_option maxRecDepth 100000
theorem aw_may1 (a1 a2 a3 ba ya : Option Addr) : mayV (plainQ a1 a2 a3 ba ya) 1 [1, 1, 2] 0 = 0 := of_decide_eq_true (by kernel_rfl)
theorem aw_plan1 (a1 a2 a3 ba ya : Option Addr) : planV (plainQ a1 a2 a3 ba ya) 1 [1, 1, 2] 0 = ([(0, 10), (10, 17), (0, 10)], 0) := of_decide_eq_true (by kernel_rfl)
theorem aw_plan2 (a1 a2 a3 ba ya : Option Addr) : planV (plainQ a1 a2 a3 ba ya) 2 [1, 1, 2] 0 = ([(0, 10), (10, 17), (17, 27)], 0) := of_decide_eq_true (by kernel_rfl)
theorem aw_fee (a1 a2 a3 ba ya : Option Addr) : feeV (plainQ a1 a2 a3 ba ya) 1 [1, 1, 2] 0 = (6, 0) := of_decide_eq_true (by kernel_rfl)
theorem aw_cheap (a1 a2 a3 ba ya : Option Addr) : cheapV (plainQ a1 a2 a3 ba ya) [1, 1, 2] 0 = (2, 0) := of_decide_eq_true (by kernel_rfl)
theorem aw_fits1 (a1 a2 a3 ba ya : Option Addr) : fitsV (plainQ a1 a2 a3 ba ya) 1 [1, 1, 2] 0 [(0, 10), (10, 17), (0, 10)] = true := by kernel_rfl
theorem aw_fits2 (a1 a2 a3 ba ya : Option Addr) : fitsV (plainQ a1 a2 a3 ba ya) 2 [1, 1, 2] 0 [(0, 10), (10, 17), (0, 10)] = false := by kernel_rfl
end Quo
end Go.Proofs.Ytiabnjmblcogmaa
end
section
namespace Go.Proofs.Ytiabnjmblcogmaa
open Go.RowKit
namespace Quo
open Cat (CatIn BayIn chkC nob noy Cam Lies Blues Bays)
open Rec (BlueIn Stk Stks stkVals)
open Pen (below2 below_al below_dN)
theorem sizeCat : (Try.prog.info? 27).map (·.size) = some 8 := by kernel_rfl
set_option maxRecDepth 100000 in
set_option maxHeartbeats 4000000 in
theorem plain_any (w : World) :
    Calls Try.prog 18 #[] w fun e w' => ∃ a1 a2 a3 ba ya, e = .returned (.agg (plainQ a1 a2 a3 ba ya).val) ∧ Hid (Cam w' (plainQ a1 a2 a3 ba ya)) ∧ Hid (Below w.heap.size w w') := by
  go_enter Try.func18, Try.ntmps18
  go_wp2
  try simp only [Exit.inBlock, Exit.then]
  refine bodyPost_ret (v := .agg #[.int .i64 4, .slice (some ⟨w.heap.size + 1 + 1 + 1 + 1 + 1 + 1 + 1, 0, none⟩) 3 3, .int .i64 1, .slice (some ⟨w.heap.size + 1 + 1 + 1 + 1 + 1 + 1 + 1 + 1, 0, none⟩) 2 2, .int .i64 1, .int .i64 0, .int .i64 0, .int .i64 0]) (results_cell_row rfl _ _ _ 27 _ (0, 0) _ (by rfl) ?_ Try.underlying27 rfl sizeCat) rfl ⟨some ⟨w.heap.size + 1, 0, none⟩, some ⟨w.heap.size + 1 + 1 + 1, 0, none⟩, some ⟨w.heap.size + 1 + 1 + 1 + 1 + 1, 0, none⟩, some ⟨w.heap.size + 1 + 1 + 1 + 1 + 1 + 1 + 1, 0, none⟩, some ⟨w.heap.size + 1 + 1 + 1 + 1 + 1 + 1 + 1 + 1, 0, none⟩, rfl, ⟨⟨fun i hi => ?_, fun i hi => ?_, fun i hi => ?_⟩, ⟨(by decide : 3 ≤ 20), (by decide : 2 ≤ 12), fun i hi => ?_⟩, ?_⟩, ?_⟩
  · refine (heap_alloc_old _ _ (by simp; omega)).trans ((heap_alloc_old _ _ (by simp; omega)).trans ((heap_alloc_old _ _ (by simp; omega)).trans ((heap_alloc_old _ _ (by simp; omega)).trans ((heap_alloc_old _ _ (by simp; omega)).trans ((heap_alloc_old _ _ (by simp; omega)).trans ((heap_alloc_old _ _ (by simp; omega)).trans ((heap_alloc_old _ _ (by simp)).trans ((heap_alloc_new w _)))))))))
  · match i, hi with
    | 0, _ => exact ⟨_, 0, rfl, by simp <;> omega, (by go_simp; first | done | rfl | exact ⟨rfl, rfl, rfl⟩), (by go_simp; first | done | rfl | exact ⟨rfl, rfl, rfl⟩), (by go_simp; first | done | rfl | exact ⟨rfl, rfl, rfl⟩), (by go_simp; first | done | rfl | exact ⟨rfl, rfl, rfl⟩), (by go_simp; first | done | rfl | exact ⟨rfl, rfl, rfl⟩), (by go_simp; first | done | rfl | exact ⟨rfl, rfl, rfl⟩), (by go_simp; first | done | rfl | exact ⟨rfl, rfl, rfl⟩)⟩
    | 1, _ => exact ⟨_, 0, rfl, by simp <;> omega, (by go_simp; first | done | rfl | exact ⟨rfl, rfl, rfl⟩), (by go_simp; first | done | rfl | exact ⟨rfl, rfl, rfl⟩), (by go_simp; first | done | rfl | exact ⟨rfl, rfl, rfl⟩), (by go_simp; first | done | rfl | exact ⟨rfl, rfl, rfl⟩), (by go_simp; first | done | rfl | exact ⟨rfl, rfl, rfl⟩), (by go_simp; first | done | rfl | exact ⟨rfl, rfl, rfl⟩), (by go_simp; first | done | rfl | exact ⟨rfl, rfl, rfl⟩)⟩
    | 2, _ => exact ⟨_, 0, rfl, by simp <;> omega, (by go_simp; first | done | rfl | exact ⟨rfl, rfl, rfl⟩), (by go_simp; first | done | rfl | exact ⟨rfl, rfl, rfl⟩), (by go_simp; first | done | rfl | exact ⟨rfl, rfl, rfl⟩), (by go_simp; first | done | rfl | exact ⟨rfl, rfl, rfl⟩), (by go_simp; first | done | rfl | exact ⟨rfl, rfl, rfl⟩), (by go_simp; first | done | rfl | exact ⟨rfl, rfl, rfl⟩), (by go_simp; first | done | rfl | exact ⟨rfl, rfl, rfl⟩)⟩
  · match i, hi with
    | 0, _ => exact ⟨_, 0, rfl, by simp, (by go_simp; first | done | rfl | exact ⟨rfl, rfl, rfl⟩), (by go_simp; first | done | rfl | exact ⟨rfl, rfl, rfl⟩), (by go_simp; first | done | rfl | exact ⟨rfl, rfl, rfl⟩), (by go_simp; first | done | rfl | exact ⟨rfl, rfl, rfl⟩)⟩
    | 1, _ => exact ⟨_, 0, rfl, by simp, (by go_simp; first | done | rfl | exact ⟨rfl, rfl, rfl⟩), (by go_simp; first | done | rfl | exact ⟨rfl, rfl, rfl⟩), (by go_simp; first | done | rfl | exact ⟨rfl, rfl, rfl⟩), (by go_simp; first | done | rfl | exact ⟨rfl, rfl, rfl⟩)⟩
  · match i, hi with
    | 0, _ =>
      intro k hk
      match k, hk with
      | 0, _ => exact ⟨_, 0, rfl, by simp <;> omega, (by go_simp; first | done | rfl | exact ⟨rfl, rfl, rfl⟩), (by go_simp; first | done | rfl | exact ⟨rfl, rfl, rfl⟩)⟩
    | 1, _ =>
      intro k hk
      match k, hk with
      | 0, _ => exact ⟨_, 0, rfl, by simp <;> omega, (by go_simp; first | done | rfl | exact ⟨rfl, rfl, rfl⟩), (by go_simp; first | done | rfl | exact ⟨rfl, rfl, rfl⟩)⟩
    | 2, _ =>
      intro k hk
      match k, hk with
      | 0, _ => exact ⟨_, 0, rfl, by simp <;> omega, (by go_simp; first | done | rfl | exact ⟨rfl, rfl, rfl⟩), (by go_simp; first | done | rfl | exact ⟨rfl, rfl, rfl⟩)⟩
  · match i, hi with
    | 0, _ => exact (by decide : 1 ≤ 12)
    | 1, _ => exact (by decide : 1 ≤ 12)
    | 2, _ => exact (by decide : 1 ≤ 12)
  · refine ⟨rfl, rfl, rfl, rfl, rfl, rfl, fun i hi => ?_, fun i hi => ?_⟩
    · match i, hi with
      | 0, _ => exact ⟨rfl, rfl, rfl, rfl, rfl, rfl, fun k hk => match k, hk with | 0, _ => ⟨rfl, rfl⟩⟩
      | 1, _ => exact ⟨rfl, rfl, rfl, rfl, rfl, rfl, fun k hk => match k, hk with | 0, _ => ⟨rfl, rfl⟩⟩
      | 2, _ => exact ⟨rfl, rfl, rfl, rfl, rfl, rfl, fun k hk => match k, hk with | 0, _ => ⟨rfl, rfl⟩⟩
    · match i, hi with
      | 0, _ => exact ⟨rfl, rfl, rfl, rfl⟩
      | 1, _ => exact ⟨rfl, rfl, rfl, rfl⟩
  · exact below_al (below_al (below_al (below_al (below_al (below_al (below_al (below_al (below_al (Below.refl _ _) _) _) _) _) _) _) _) _) _
end Quo
end Go.Proofs.Ytiabnjmblcogmaa
end
section
namespace Go.Proofs.Ytiabnjmblcogmaa
open Go.RowKit
namespace Quo
open Cat (CatIn BayIn chkC nob noy Cam Lies Blues Bays)
open Rec (BlueIn Stk Stks stkVals)
open Pen (below2 below_al below_dN)
theorem ints3 (W : World) : In.Ints .i64 (W.alloc (.cells #[.int .i64 1, .int .i64 1, .int .i64 2] 3)) (some ⟨W.heap.size, 0, none⟩) [1, 1, 2] := fun i hi => match i, hi with
  | 0, _ => ⟨_, 0, rfl, by simp, by go_simp⟩
  | 1, _ => ⟨_, 0, rfl, by simp, by go_simp⟩
  | 2, _ => ⟨_, 0, rfl, by simp, by go_simp⟩
theorem stks3 (W : World) (x1 x2 y1 y2 z1 z2 : Int) (t : TypeId) : Stks (W.alloc (.cells #[.int .i64 x1, .int .i64 x2, .int .i64 y1, .int .i64 y2, .int .i64 z1, .int .i64 z2] t)) (some ⟨W.heap.size, 0, none⟩) [(x1, x2), (y1, y2), (z1, z2)] := by
  intro i hi
  refine ⟨W.heap.size, 0, rfl, by rw [World.size_alloc]; omega, ?_⟩
  match i, hi with
  | 0, _ => go_simp
  | 1, _ => go_simp
  | 2, _ => go_simp
theorem bel1 (W : World) (o : Obj) : Below W.heap.size W (W.alloc o) := below_al (Below.refl _ _) _
theorem do_plan1 (W : World) (a1 a2 a3 ba ya : Option Addr) (h : Cam W (plainQ a1 a2 a3 ba ya)) : Calls Try.prog 8 #[.agg (plainQ a1 a2 a3 ba ya).val, .int .i64 1, .slice (some ⟨W.heap.size, 0, none⟩) 3 3, .int .i64 0] (W.alloc (.cells #[.int .i64 1, .int .i64 1, .int .i64 2] 3)) fun e w' => ∃ a cap, e = .returned (.tuple #[.slice a 3 cap, .int .i64 0]) ∧ Hid (Stks w' a [(0, 10), (10, 17), (0, 10)]) ∧ Below W.heap.size W w' :=
  (plan_any (plainQ a1 a2 a3 ba ya) _ (h.below (bel1 _ _)) 1 _ 3 [1, 1, 2] (by decide) (ints3 W) 0).mono fun e w' ⟨a, cap, h1, h2, h3⟩ => by
    rw [aw_plan1] at h1 h2
    exact ⟨a, cap, h1, h2, below2 (bel1 _ _) h3.out⟩
theorem do_plan2 (W : World) (a1 a2 a3 ba ya : Option Addr) (h : Cam W (plainQ a1 a2 a3 ba ya)) : Calls Try.prog 8 #[.agg (plainQ a1 a2 a3 ba ya).val, .int .i64 2, .slice (some ⟨W.heap.size, 0, none⟩) 3 3, .int .i64 0] (W.alloc (.cells #[.int .i64 1, .int .i64 1, .int .i64 2] 3)) fun e w' => ∃ a cap, e = .returned (.tuple #[.slice a 3 cap, .int .i64 0]) ∧ Hid (Stks w' a [(0, 10), (10, 17), (17, 27)]) ∧ Below W.heap.size W w' :=
  (plan_any (plainQ a1 a2 a3 ba ya) _ (h.below (bel1 _ _)) 2 _ 3 [1, 1, 2] (by decide) (ints3 W) 0).mono fun e w' ⟨a, cap, h1, h2, h3⟩ => by
    rw [aw_plan2] at h1 h2
    exact ⟨a, cap, h1, h2, below2 (bel1 _ _) h3.out⟩
theorem do_fee (W : World) (a1 a2 a3 ba ya : Option Addr) (h : Cam W (plainQ a1 a2 a3 ba ya)) : Calls Try.prog 10 #[.agg (plainQ a1 a2 a3 ba ya).val, .int .i64 1, .slice (some ⟨W.heap.size, 0, none⟩) 3 3, .int .i64 0] (W.alloc (.cells #[.int .i64 1, .int .i64 1, .int .i64 2] 3)) fun e w' => e = .returned (.tuple #[.int .i64 6, .int .i64 0]) ∧ Below W.heap.size W w' :=
  (fee_any (plainQ a1 a2 a3 ba ya) _ (h.below (bel1 _ _)) 1 _ 3 [1, 1, 2] (by decide) (ints3 W) 0).mono fun e w' ⟨h1, h2⟩ => by
    rw [aw_fee] at h1
    exact ⟨h1, below2 (bel1 _ _) h2⟩
theorem do_cheap (W : World) (a1 a2 a3 ba ya : Option Addr) (h : Cam W (plainQ a1 a2 a3 ba ya)) : Calls Try.prog 12 #[.agg (plainQ a1 a2 a3 ba ya).val, .slice (some ⟨W.heap.size, 0, none⟩) 3 3, .int .i64 0] (W.alloc (.cells #[.int .i64 1, .int .i64 1, .int .i64 2] 3)) fun e w' => e = .returned (.tuple #[.int .i64 2, .int .i64 0]) ∧ Below W.heap.size W w' :=
  (cheapest_any (plainQ a1 a2 a3 ba ya) _ (h.below (bel1 _ _)) _ 3 [1, 1, 2] (by decide) (ints3 W) 0).mono fun e w' ⟨h1, h2⟩ => by
    rw [aw_cheap] at h1
    exact ⟨h1, below2 (bel1 _ _) h2⟩
theorem do_fits1 (W : World) (a1 a2 a3 ba ya : Option Addr) (h : Cam W (plainQ a1 a2 a3 ba ya)) (s : Option Addr) (sc : Nat) (hs : Stks W s [(0, 10), (10, 17), (0, 10)]) : Calls Try.prog 15 #[.agg (plainQ a1 a2 a3 ba ya).val, .int .i64 1, .slice (some ⟨W.heap.size, 0, none⟩) 3 3, .int .i64 0, .slice s 3 sc] (W.alloc (.cells #[.int .i64 1, .int .i64 1, .int .i64 2] 3)) fun e w' => e = .returned (.bool true) ∧ Below W.heap.size W w' :=
  (fits_any (plainQ a1 a2 a3 ba ya) _ (h.below (bel1 _ _)) 1 _ 3 [1, 1, 2] (by decide) (ints3 W) 0 s sc [(0, 10), (10, 17), (0, 10)] (by decide) (hs.below (bel1 _ _)) (fun i hi => match i, hi with | 0, _ => rfl | 1, _ => rfl | 2, _ => rfl)).mono fun e w' ⟨h1, h2⟩ => by
    rw [aw_fits1] at h1
    exact ⟨h1, below2 (bel1 _ _) h2⟩
theorem do_fits2 (W : World) (a1 a2 a3 ba ya : Option Addr) (h : Cam W (plainQ a1 a2 a3 ba ya)) (s : Option Addr) (sc : Nat) (hs : Stks W s [(0, 10), (10, 17), (0, 10)]) : Calls Try.prog 15 #[.agg (plainQ a1 a2 a3 ba ya).val, .int .i64 2, .slice (some ⟨W.heap.size, 0, none⟩) 3 3, .int .i64 0, .slice s 3 sc] (W.alloc (.cells #[.int .i64 1, .int .i64 1, .int .i64 2] 3)) fun e w' => e = .returned (.bool false) ∧ Below W.heap.size W w' :=
  (fits_any (plainQ a1 a2 a3 ba ya) _ (h.below (bel1 _ _)) 2 _ 3 [1, 1, 2] (by decide) (ints3 W) 0 s sc [(0, 10), (10, 17), (0, 10)] (by decide) (hs.below (bel1 _ _)) (fun i hi => match i, hi with | 0, _ => rfl | 1, _ => rfl | 2, _ => rfl)).mono fun e w' ⟨h1, h2⟩ => by
    rw [aw_fits2] at h1
    exact ⟨h1, below2 (bel1 _ _) h2⟩
theorem do_same1 (W : World) (s : Option Addr) (sc : Nat) (hs : Stks W s [(0, 10), (10, 17), (0, 10)]) : Calls Try.prog 14 #[.slice s 3 sc, .slice (some ⟨W.heap.size, 0, none⟩) 3 3] (W.alloc (.cells #[.int .i64 0, .int .i64 10, .int .i64 10, .int .i64 17, .int .i64 0, .int .i64 10] 46)) fun e w' => e = .returned (.bool true) ∧ Below W.heap.size W w' :=
  (sameSpans_any s (some ⟨W.heap.size, 0, none⟩) sc 3 [(0, 10), (10, 17), (0, 10)] [(0, 10), (10, 17), (0, 10)] (by decide) (by decide) _ (hs.below (bel1 _ _)) (stks3 W _ _ _ _ _ _ _)).mono fun e w' ⟨h1, h2⟩ => ⟨h1, below2 (bel1 _ _) h2⟩
theorem do_same2 (W : World) (s : Option Addr) (sc : Nat) (hs : Stks W s [(0, 10), (10, 17), (17, 27)]) : Calls Try.prog 14 #[.slice s 3 sc, .slice (some ⟨W.heap.size, 0, none⟩) 3 3] (W.alloc (.cells #[.int .i64 0, .int .i64 10, .int .i64 10, .int .i64 17, .int .i64 17, .int .i64 27] 46)) fun e w' => e = .returned (.bool true) ∧ Below W.heap.size W w' :=
  (sameSpans_any s (some ⟨W.heap.size, 0, none⟩) sc 3 [(0, 10), (10, 17), (17, 27)] [(0, 10), (10, 17), (17, 27)] (by decide) (by decide) _ (hs.below (bel1 _ _)) (stks3 W _ _ _ _ _ _ _)).mono fun e w' ⟨h1, h2⟩ => ⟨h1, below2 (bel1 _ _) h2⟩
set_option maxRecDepth 100000 in
set_option maxHeartbeats 4000000 in
theorem awake_any (w : World) : Calls Try.prog 7 #[] w fun e w' => e = .returned (.bool true) ∧ Below w.heap.size w w' := by
  have B0 : Hid (Below w.heap.size w w) := Below.refl _ _
  go_enter Try.func7, Try.ntmps7
  go_wp2_with (first
    | (go_at_call 15; (have tok := B13; (with_reducible refine (do_fits2 _ _ _ _ _ _ HC13.out _ _ L13.out).mono ?_); rintro e w14 ⟨rfl, hb14⟩; clear tok; have B14 := Lib.hid (below2 B13.out hb14); have L14 := Lib.hid (L13.out.below hb14); have M14 := Lib.hid (M13.out.below hb14); clear B13 L13 M13))
    | (go_at_call 18; (have tok := B12; (with_reducible refine (plain_any _).mono ?_); rintro e w13 ⟨p13, q13, r13, ba13, ya13, rfl, HC13, hq13⟩; have hb13 := hq13.out; clear tok; have B13 := Lib.hid (below2 B12.out hb13); have L13 := Lib.hid (L12.out.below hb13); have M13 := Lib.hid (M12.out.below hb13); clear B12 L12 M12))
    | (go_at_call 15; (have tok := B11; (with_reducible refine (do_fits1 _ _ _ _ _ _ HC11.out _ _ L11.out).mono ?_); rintro e w12 ⟨rfl, hb12⟩; clear tok; have B12 := Lib.hid (below2 B11.out hb12); have L12 := Lib.hid (L11.out.below hb12); have M12 := Lib.hid (M11.out.below hb12); clear B11 L11 M11))
    | (go_at_call 18; (have tok := B10; (with_reducible refine (plain_any _).mono ?_); rintro e w11 ⟨p11, q11, r11, ba11, ya11, rfl, HC11, hq11⟩; have hb11 := hq11.out; clear tok; have B11 := Lib.hid (below2 B10.out hb11); have L11 := Lib.hid (L10.out.below hb11); have M11 := Lib.hid (M10.out.below hb11); clear B10 L10 M10))
    | (go_at_call 14; (have tok := B9; (with_reducible refine (do_same2 _ _ _ M9.out).mono ?_); rintro e w10 ⟨rfl, hb10⟩; clear tok; have B10 := Lib.hid (below2 B9.out hb10); have L10 := Lib.hid (L9.out.below hb10); have M10 := Lib.hid (M9.out.below hb10); clear B9 L9 M9))
    | (go_at_call 14; (have tok := B8; (with_reducible refine (do_same1 _ _ _ L8.out).mono ?_); rintro e w9 ⟨rfl, hb9⟩; clear tok; have B9 := Lib.hid (below2 B8.out hb9); have L9 := Lib.hid (L8.out.below hb9); have M9 := Lib.hid (M8.out.below hb9); clear B8 L8 M8))
    | (go_at_call 12; (have tok := B7; (with_reducible refine (do_cheap _ _ _ _ _ _ HC7.out).mono ?_); rintro e w8 ⟨rfl, hb8⟩; clear tok; have B8 := Lib.hid (below2 B7.out hb8); have L8 := Lib.hid (L7.out.below hb8); have M8 := Lib.hid (M7.out.below hb8); clear B7 L7 M7))
    | (go_at_call 18; (have tok := B6; (with_reducible refine (plain_any _).mono ?_); rintro e w7 ⟨p7, q7, r7, ba7, ya7, rfl, HC7, hq7⟩; have hb7 := hq7.out; clear tok; have B7 := Lib.hid (below2 B6.out hb7); have L7 := Lib.hid (L6.out.below hb7); have M7 := Lib.hid (M6.out.below hb7); clear B6 L6 M6))
    | (go_at_call 10; (have tok := B5; (with_reducible refine (do_fee _ _ _ _ _ _ HC5.out).mono ?_); rintro e w6 ⟨rfl, hb6⟩; clear tok; have B6 := Lib.hid (below2 B5.out hb6); have L6 := Lib.hid (L5.out.below hb6); have M6 := Lib.hid (M5.out.below hb6); clear B5 L5 M5))
    | (go_at_call 18; (have tok := B4; (with_reducible refine (plain_any _).mono ?_); rintro e w5 ⟨p5, q5, r5, ba5, ya5, rfl, HC5, hq5⟩; have hb5 := hq5.out; clear tok; have B5 := Lib.hid (below2 B4.out hb5); have L5 := Lib.hid (L4.out.below hb5); have M5 := Lib.hid (M4.out.below hb5); clear B4 L4 M4))
    | (go_at_call 8; (have tok := B3; (with_reducible refine (do_plan2 _ _ _ _ _ _ HC3.out).mono ?_); rintro e w4 ⟨am, cm, rfl, M4, hb4⟩; clear tok; have B4 := Lib.hid (below2 B3.out hb4); have L4 := Lib.hid (L3.out.below hb4); clear B3 L3))
    | (go_at_call 18; (have tok := B2; (with_reducible refine (plain_any _).mono ?_); rintro e w3 ⟨p3, q3, r3, ba3, ya3, rfl, HC3, hq3⟩; have hb3 := hq3.out; clear tok; have B3 := Lib.hid (below2 B2.out hb3); have L3 := Lib.hid (L2.out.below hb3); clear B2 L2))
    | (go_at_call 8; (have tok := B1; (with_reducible refine (do_plan1 _ _ _ _ _ _ HC1.out).mono ?_); rintro e w2 ⟨al, cl, rfl, L2, hb2⟩; clear tok; have B2 := Lib.hid (below2 B1.out hb2); clear B1))
    | (go_at_call 18; (have tok := B0; (with_reducible refine (plain_any _).mono ?_); rintro e w1 ⟨p1, q1, r1, ba1, ya1, rfl, HC1, hq1⟩; have hb1 := hq1.out; clear tok; have B1 := Lib.hid (below2 B0.out hb1); clear B0)))
  go_ret
  exact ⟨rfl, B14.out⟩
end Quo
end Go.Proofs.Ytiabnjmblcogmaa
end
section
namespace Go.Proofs.Ytiabnjmblcogmaa
open Go.RowKit
namespace Cat
open Rec (BlueIn Stk Stks Came bchk inB)
open Pen (below2 below_al below_dN)
/-- Blueprints that say the same. -/
def sameB (a b : BlueIn) : Bool := (a.makes == b.makes) && ((a.per == b.per) && ((a.time == b.time) && (decide (a.needs = b.needs) && ((a.copy == b.copy) && ((a.study == b.study) && (a.most == b.most))))))
theorem two_boxes {w w1 : World} {xs ys : Array Value} {t t2 : TypeId} (h : Below ((w.alloc (.cells xs t)).alloc (.cells ys t2)).heap.size ((w.alloc (.cells xs t)).alloc (.cells ys t2)) w1) (i : Nat) : w1.cell? ⟨w.heap.size, i, none⟩ = xs[i]? ∧ w1.cell? ⟨w.heap.size + 1, i, none⟩ = ys[i]? := by
  constructor
  · refine (h.cell (by simp; try omega)).trans ?_
    go_simp
  · refine (h.cell (by simp; try omega)).trans ?_
    go_simp
end Cat
end Go.Proofs.Ytiabnjmblcogmaa
end
section
namespace Go.Proofs.Ytiabnjmblcogmaa
open Go.RowKit
namespace Cat
open Rec (BlueIn Stk Stks Came bchk inB)
open Pen (below2 below_al below_dN)
def eqY (a b : BayIn) : Bool := (a.place == b.place) && ((a.make == b.make) && ((a.lab == b.lab) && (a.rate == b.rate)))
/-- Catalogues that say the same. -/
def sameC (c d : CatIn) : Bool := (c.types == d.types) && ((c.places == d.places) && ((c.chars == d.chars) && ((c.broker == d.broker) && ((c.least == d.least) && ((c.sales == d.sales) && (decide (c.blues.length = d.blues.length) && (decide (c.bays.length = d.bays.length) && (decide (fst (fun i => !sameB (c.blues.getD i nob) (d.blues.getD i nob)) c.blues.length = -1) && decide (fst (fun i => !eqY (c.bays.getD i noy) (d.bays.getD i noy)) c.bays.length = -1)))))))))
/-- Two catalogues' boxes. -/
def Two (w : World) (a1 : Option Addr) (n1 k1 : Nat) (b1 : Option Addr) (m1 l1 : Nat) (a2 : Option Addr) (k2 : Nat) (b2 : Option Addr) (l2 : Nat) (W : World) : Prop := Below w.heap.size w W ∧ w.heap.size + 1 < W.heap.size ∧ W.cell? ⟨w.heap.size, 1, none⟩ = some (.slice a1 n1 k1) ∧ W.cell? ⟨w.heap.size, 3, none⟩ = some (.slice b1 m1 l1) ∧ W.cell? ⟨w.heap.size + 1, 1, none⟩ = some (.slice a2 n1 k2) ∧ W.cell? ⟨w.heap.size + 1, 3, none⟩ = some (.slice b2 m1 l2)
theorem two_next {w W W' : World} {a1 b1 a2 b2 : Option Addr} {n1 k1 m1 l1 k2 l2 : Nat} (h : Two w a1 n1 k1 b1 m1 l1 a2 k2 b2 l2 W) (hb : Below W.heap.size W W') : Two w a1 n1 k1 b1 m1 l1 a2 k2 b2 l2 W' := by
  obtain ⟨h1, h2, c0, c1, c2, c3⟩ := h
  exact ⟨below2 h1 hb, Nat.lt_of_lt_of_le h2 hb.size, (hb.cell (by show w.heap.size < _; omega)).trans c0, (hb.cell (by show w.heap.size < _; omega)).trans c1, (hb.cell h2).trans c2, (hb.cell h2).trans c3⟩
theorem two_b {w W : World} {a1 b1 a2 b2 : Option Addr} {n1 k1 m1 l1 k2 l2 : Nat} (h : Two w a1 n1 k1 b1 m1 l1 a2 k2 b2 l2 W) : Below w.heap.size w W := h.1
theorem two_drew {w W : World} {a1 b1 a2 b2 : Option Addr} {n1 k1 m1 l1 k2 l2 : Nat} (h : Two w a1 n1 k1 b1 m1 l1 a2 k2 b2 l2 W) : Two w a1 n1 k1 b1 m1 l1 a2 k2 b2 l2 W.drew := ⟨⟨h.1.os, h.1.tape, h.1.output, h.1.size, h.1.block⟩, h.2.1, h.2.2⟩
theorem two_dN {w W : World} {a1 b1 a2 b2 : Option Addr} {n1 k1 m1 l1 k2 l2 : Nat} (h : Two w a1 n1 k1 b1 m1 l1 a2 k2 b2 l2 W) (n : Nat) : Hid (Two w a1 n1 k1 b1 m1 l1 a2 k2 b2 l2 (W.drewN n)) := ⟨⟨h.1.os, h.1.tape, h.1.output, h.1.size, h.1.block⟩, h.2.1, h.2.2⟩
theorem two_cells {w W : World} {a1 b1 a2 b2 : Option Addr} {n1 k1 m1 l1 k2 l2 : Nat} (h : Two w a1 n1 k1 b1 m1 l1 a2 k2 b2 l2 W) : W.cell? ⟨w.heap.size, 1, none⟩ = some (.slice a1 n1 k1) ∧ W.cell? ⟨w.heap.size, 3, none⟩ = some (.slice b1 m1 l1) ∧ W.cell? ⟨w.heap.size + 1, 1, none⟩ = some (.slice a2 n1 k2) ∧ W.cell? ⟨w.heap.size + 1, 3, none⟩ = some (.slice b2 m1 l2) := h.2.2
end Cat
end Go.Proofs.Ytiabnjmblcogmaa
end
section
namespace Go.Proofs.Ytiabnjmblcogmaa
open Go.RowKit Go.WideShapes Go.WideElems Go.ChangeAt Go.ChangeShapes
namespace Cat
open Rec (BlueIn Stk Stks Came bchk inB)
theorem cat_cells : Try.prog.cellsOf 3 = 1 ∧ Try.prog.cellsOf 49 = 1 ∧ Try.prog.cellsOf 85 = 2 ∧ Try.prog.cellsOf 51 = 7 ∧ Try.prog.cellsOf 22 = 1 ∧ Try.prog.cellsOf 48 = 4 ∧ Try.prog.cellsOf 23 = 1 ∧ Try.prog.cellsOf 25 = 3 ∧ Try.prog.cellsOf 27 = 8 := ⟨by kernel_rfl, by kernel_rfl, by kernel_rfl, by kernel_rfl, by kernel_rfl, by kernel_rfl, by kernel_rfl, by kernel_rfl, by kernel_rfl⟩
theorem at_addr {w : World} {a : Addr} (h0 : ∃ v0, w.cell? (a.add 0) = some v0) : ∃ b off, a = ⟨b, off, none⟩ ∧ b < w.heap.size ∧ ∀ j, a.add j = ⟨b, off + j, none⟩ := by
  obtain ⟨b, off, spot⟩ := a
  obtain ⟨v0, h0⟩ := h0
  have hs : spot = none := by simpa [Addr.add] using World.cell?_spot h0
  subst hs
  have e : ∀ j, (⟨b, off, none⟩ : Addr).add j = ⟨b, off + j, none⟩ := fun j => by unfold Addr.add; split <;> simp_all
  rw [e] at h0
  exact ⟨b, off, rfl, World.block_lt_of_cell? _ _ h0, e⟩
section
variable {H : Type} {enc : TypeId × Value → H} {W : World} {base n : Nat} {spare : Nat → Bool} {held : Bool}
theorem slice_stks {v : Value} {y : DataW H × List MemPlace} (h : DataW.trod enc Try.prog W base spare held n 49 [v] = some y) : ∃ a l cap, v = .slice a l.length cap ∧ l.length ≤ maxLen ∧ Stks W a l ∧ ∀ k, k < l.length → In64 (l.getD k (0, 0)).1 ∧ In64 (l.getD k (0, 0)).2 := by
  rcases Go.Deep.open_slice_pairs Try.underlying49 Try.underlying85 cat_cells.2.2.1 rfl rfl cat_cells.1 cat_cells.1 h with ⟨hcs, _⟩ | ⟨x, len, cap, m, n', V0, V1, D0, D1, P0, P1, hcs, _, hl, hm, hmm, _, hcell⟩
  · simp at hcs
    subst hcs
    exact ⟨none, [], 0, rfl, Nat.zero_le _, fun i hi => absurd hi (Nat.not_lt_zero i), fun i hi => absurd hi (Nat.not_lt_zero i)⟩
  · simp at hcs
    subst hcs
    have hlz : len ≤ m := by rw [hmm]; split <;> omega
    have hll : ((List.range len).map fun i => ((intOf (V0 i), intOf (V1 i)) : Stk)).length = len := by simp
    have each : ∀ i, i < len → ((List.range len).map fun i => ((intOf (V0 i), intOf (V1 i)) : Stk)).getD i (0, 0) = (intOf (V0 i), intOf (V1 i)) := fun i hi => by simp [List.getD, hi]
    refine ⟨some x, (List.range len).map fun i => (intOf (V0 i), intOf (V1 i)), cap, by rw [hll], by rw [hll]; omega, fun i hi => ?_, fun i hi => ?_⟩
    · rw [hll] at hi
      obtain ⟨h0, h1, t0, t1⟩ := hcell i (by omega)
      obtain ⟨z0, e0, -, -⟩ := DataW.trod_int Try.underlying3 t0
      obtain ⟨z1, e1, -, -⟩ := DataW.trod_int Try.underlying3 t1
      simp at e0 e1
      obtain ⟨b, off, rfl, hb, hj⟩ := at_addr ⟨_, (hcell 0 (by omega)).1⟩
      rw [hj] at h0 h1
      refine ⟨b, off, rfl, hb, ?_, ?_⟩
      · rw [h0, each i hi, e0]; rfl
      · rw [show off + i * 2 + 1 = off + (i * 2 + 1) from rfl, h1, each i hi, e1]; rfl
    · rw [hll] at hi
      obtain ⟨h0, h1, t0, t1⟩ := hcell i (by omega)
      obtain ⟨z0, e0, -, w0⟩ := DataW.trod_int Try.underlying3 t0
      obtain ⟨z1, e1, -, w1⟩ := DataW.trod_int Try.underlying3 t1
      simp at e0 e1
      rw [each i hi, e0, e1]
      exact ⟨w0, w1⟩
/-- What is known of a blueprint that came. -/
def BlueCame (W : World) (b : BlueIn) : Prop := BlueNums b ∧ b.needs.length ≤ maxLen ∧ Stks W b.addr b.needs
theorem blue_of {cs : List Value} {y : DataW H × List MemPlace} (hl : cs.length = 7) (hf : DataW.trod enc Try.prog W base spare held n 51 cs = some y) : ∃ b : BlueIn, cs = b.val.toList ∧ BlueCame W b := by
  match cs, hl with
  | [c0, c1, c2, c3, c4, c5, c6], _ =>
    obtain ⟨xs, n, _, hx, _, hlen, hg⟩ := DataW.trod_struct Try.underlying51 hf
    match xs, hlen with
    | [y0, y1, y2, y3, y4, y5, y6], _ =>
      have k3 := cat_cells.1
      have k39 := cat_cells.2.1
      have g0 := hg 0 _ rfl
      have g1 := hg 1 _ rfl
      have g2 := hg 2 _ rfl
      have g3 := hg 3 _ rfl
      have g4 := hg 4 _ rfl
      have g5 := hg 5 _ rfl
      have g6 := hg 6 _ rfl
      simp [k3, k39] at g0 g1 g2 g3 g4 g5 g6
      obtain ⟨z0, e0, -, w0⟩ := DataW.trod_int Try.underlying3 g0
      obtain ⟨z1, e1, -, w1⟩ := DataW.trod_int Try.underlying3 g1
      obtain ⟨z2, e2, -, w2⟩ := DataW.trod_int Try.underlying3 g2
      obtain ⟨z4, e4, -, w4⟩ := DataW.trod_int Try.underlying3 g4
      obtain ⟨z5, e5, -, w5⟩ := DataW.trod_int Try.underlying3 g5
      obtain ⟨z6, e6, -, w6⟩ := DataW.trod_int Try.underlying3 g6
      simp at e0 e1 e2 e4 e5 e6
      obtain ⟨a, l, cap, rfl, hll, hst, hwf⟩ := slice_stks g3
      subst e0 e1 e2 e4 e5 e6
      exact ⟨⟨z0, z1, z2, l, a, cap, z4, z5, z6⟩, rfl, ⟨w0, w1, w2, w4, w5, w6, hwf⟩, hll, hst⟩
theorem bay_of {cs : List Value} {y : DataW H × List MemPlace} (hl : cs.length = 4) (hf : DataW.trod enc Try.prog W base spare held n 48 cs = some y) : ∃ b : BayIn, cs = b.val.toList ∧ BayNums b := by
  match cs, hl with
  | [c0, c1, c2, c3], _ =>
    obtain ⟨xs, n, _, hx, _, hlen, hg⟩ := DataW.trod_struct Try.underlying48 hf
    match xs, hlen with
    | [y0, y1, y2, y3], _ =>
      have k3 := cat_cells.1
      have g0 := hg 0 _ rfl
      have g1 := hg 1 _ rfl
      have g2 := hg 2 _ rfl
      have g3 := hg 3 _ rfl
      simp [k3] at g0 g1 g2 g3
      obtain ⟨z0, e0, -, w0⟩ := DataW.trod_int Try.underlying3 g0
      obtain ⟨z1, e1, -, w1⟩ := DataW.trod_int Try.underlying3 g1
      obtain ⟨z2, e2, -, w2⟩ := DataW.trod_int Try.underlying3 g2
      obtain ⟨z3, e3, -, w3⟩ := DataW.trod_int Try.underlying3 g3
      simp at e0 e1 e2 e3
      subst e0 e1 e2 e3
      exact ⟨⟨z0, z1, z2, z3⟩, rfl, ⟨w0, w1, w2, w3⟩⟩
theorem slice_blues {v : Value} {y : DataW H × List MemPlace} (h : DataW.trod enc Try.prog W base spare held n 22 [v] = some y) : ∃ a l cap, v = .slice a l.length cap ∧ l.length ≤ maxLen ∧ Blues W a l ∧ ∀ i, i < l.length → BlueCame W (l.getD i nob) := by
  rcases Go.Deep.open_slice Try.underlying22 h with ⟨hcs, _⟩ | ⟨x, len, cap, m, n', D, Pl, hcs, _, hl, hm, hmm, _, hcell⟩
  · simp at hcs
    subst hcs
    exact ⟨none, [], 0, rfl, Nat.zero_le _, fun i hi => absurd hi (Nat.not_lt_zero i), fun i hi => absurd hi (Nat.not_lt_zero i)⟩
  · simp at hcs
    subst hcs
    have hlz : len ≤ m := by rw [hmm]; split <;> omega
    have each : ∀ i, i < m → ∃ b : BlueIn, BlueCame W b ∧ ∀ j, j < 7 → W.cell? (x.add (i * 7 + j)) = b.val.toList[j]? := fun i hi => by
      obtain ⟨cs', h1, h2⟩ := hcell i hi
      rw [cat_cells.2.2.2.1] at h1
      obtain ⟨_, hlen, hc⟩ := World.cells?_some h1
      obtain ⟨b, hb, hbc⟩ := blue_of hlen h2
      refine ⟨b, hbc, fun j hj => ?_⟩
      have := hc j hj
      rw [Go.Deep.add_add] at this
      rw [this, ← hb]
    haveI : Inhabited BlueIn := ⟨nob⟩
    obtain ⟨B, hB⟩ := Go.Deep.choose_lt each
    have hll : ((List.range len).map B).length = len := by simp
    have eachL : ∀ i, i < len → ((List.range len).map B).getD i nob = B i := fun i hi => by simp [List.getD, hi]
    refine ⟨some x, (List.range len).map B, cap, by rw [hll], by rw [hll]; omega, fun i hi => ?_, fun i hi => ?_⟩
    · rw [hll] at hi
      have hc := (hB i (by omega)).2
      obtain ⟨b, off, rfl, hb, hj⟩ := at_addr ⟨_, ((hB 0 (by omega)).2 0 (by decide)).trans rfl⟩
      rw [eachL i hi]
      simp only [hj] at hc
      exact ⟨b, off, rfl, hb, hc 0 (by decide), hc 1 (by decide), hc 2 (by decide), hc 3 (by decide), hc 4 (by decide), hc 5 (by decide), hc 6 (by decide)⟩
    · rw [hll] at hi
      rw [eachL i hi]
      exact (hB i (by omega)).1
theorem slice_bays {v : Value} {y : DataW H × List MemPlace} (h : DataW.trod enc Try.prog W base spare held n 23 [v] = some y) : ∃ a l cap, v = .slice a l.length cap ∧ l.length ≤ maxLen ∧ Bays W a l ∧ ∀ i, i < l.length → BayNums (l.getD i noy) := by
  rcases Go.Deep.open_slice Try.underlying23 h with ⟨hcs, _⟩ | ⟨x, len, cap, m, n', D, Pl, hcs, _, hl, hm, hmm, _, hcell⟩
  · simp at hcs
    subst hcs
    exact ⟨none, [], 0, rfl, Nat.zero_le _, fun i hi => absurd hi (Nat.not_lt_zero i), fun i hi => absurd hi (Nat.not_lt_zero i)⟩
  · simp at hcs
    subst hcs
    have hlz : len ≤ m := by rw [hmm]; split <;> omega
    have each : ∀ i, i < m → ∃ b : BayIn, BayNums b ∧ ∀ j, j < 4 → W.cell? (x.add (i * 4 + j)) = b.val.toList[j]? := fun i hi => by
      obtain ⟨cs', h1, h2⟩ := hcell i hi
      rw [cat_cells.2.2.2.2.2.1] at h1
      obtain ⟨_, hlen, hc⟩ := World.cells?_some h1
      obtain ⟨b, hb, hbc⟩ := bay_of hlen h2
      refine ⟨b, hbc, fun j hj => ?_⟩
      have := hc j hj
      rw [Go.Deep.add_add] at this
      rw [this, ← hb]
    haveI : Inhabited BayIn := ⟨noy⟩
    obtain ⟨B, hB⟩ := Go.Deep.choose_lt each
    have hll : ((List.range len).map B).length = len := by simp
    have eachL : ∀ i, i < len → ((List.range len).map B).getD i noy = B i := fun i hi => by simp [List.getD, hi]
    refine ⟨some x, (List.range len).map B, cap, by rw [hll], by rw [hll]; omega, fun i hi => ?_, fun i hi => ?_⟩
    · rw [hll] at hi
      have hc := (hB i (by omega)).2
      obtain ⟨b, off, rfl, hb, hj⟩ := at_addr ⟨_, ((hB 0 (by omega)).2 0 (by decide)).trans rfl⟩
      rw [eachL i hi]
      simp only [hj] at hc
      exact ⟨b, off, rfl, hb, hc 0 (by decide), hc 1 (by decide), hc 2 (by decide), hc 3 (by decide)⟩
    · rw [hll] at hi
      rw [eachL i hi]
      exact (hB i (by omega)).1
end
/-- A catalogue that came. -/
def IsCat (W : World) (v : Value) (c : CatIn) : Prop := v = .agg c.val ∧ Lies W c ∧ Nums c ∧ c.blues.length ≤ maxLen ∧ c.bays.length ≤ maxLen ∧ ∀ i, i < c.blues.length → (c.blues.getD i nob).needs.length ≤ maxLen
set_option maxRecDepth 100000 in
theorem isCat_of {H : Type} {enc : TypeId × Value → H} {W : World} {r : Reach} {b0 : Nat} {v : Value} {d : DataW H} {p : List MemPlace} {base : Nat} {spare held : _}
    (hv : Value.okWide Try.prog W r b0 27 v) (h : DataW.Trod enc Try.prog W base spare held 27 v d p) : ∃ c, IsCat W v c := by
  obtain ⟨cs, rfl, hsz⟩ := okWide_struct Try.underlying27 hv
  rw [cat_cells.2.2.2.2.2.2.2.2] at hsz
  obtain ⟨l⟩ := cs
  match l, hsz with
  | [c0, c1, c2, c3, c4, c5, c6, c7], _ =>
    obtain ⟨fuel, hf⟩ := h
    obtain ⟨xs, n, _, hx, _, hlen, hg⟩ := DataW.trod_struct Try.underlying27 hf
    match xs, hlen with
    | [y0, y1, y2, y3, y4, y5], _ =>
      have k3 := cat_cells.1
      have k22 := cat_cells.2.2.2.2.1
      have k23 := cat_cells.2.2.2.2.2.2.1
      have k25 := cat_cells.2.2.2.2.2.2.2.1
      have g0 := hg 0 _ rfl
      have g1 := hg 1 _ rfl
      have g2 := hg 2 _ rfl
      have g3 := hg 3 _ rfl
      have g4 := hg 4 _ rfl
      have g5 := hg 5 _ rfl
      simp [Value.cells, k3, k22, k23, k25] at g0 g1 g2 g3 g4 g5
      obtain ⟨z0, e0, -, w0⟩ := DataW.trod_int Try.underlying3 g0
      obtain ⟨z2, e2, -, w2⟩ := DataW.trod_int Try.underlying3 g2
      obtain ⟨z4, e4, -, w4⟩ := DataW.trod_int Try.underlying3 g4
      simp at e0 e2 e4
      obtain ⟨ba, bl, bc, rfl, hbl, hbb, hbc⟩ := slice_blues g1
      obtain ⟨ya, yl, yc, rfl, hyl, hyb, hyc⟩ := slice_bays g3
      obtain ⟨us, m, _, hu, _, hulen, hug⟩ := DataW.trod_struct Try.underlying25 g5
      match us, hulen with
      | [u0, u1, u2], _ =>
        have f0 := hug 0 _ rfl
        have f1 := hug 1 _ rfl
        have f2 := hug 2 _ rfl
        simp [k3] at f0 f1 f2
        obtain ⟨z5, e5, -, w5⟩ := DataW.trod_int Try.underlying3 f0
        obtain ⟨z6, e6, -, w6⟩ := DataW.trod_int Try.underlying3 f1
        obtain ⟨z7, e7, -, w7⟩ := DataW.trod_int Try.underlying3 f2
        simp at e5 e6 e7
        subst e0 e2 e4 e5 e6 e7
        exact ⟨⟨z0, bl, ba, bc, z2, yl, ya, yc, z4, z5, z6, z7⟩, rfl, ⟨hbb, hyb, fun i hi => (hbc i hi).2.2⟩, ⟨w0, w2, w4, w5, w6, w7, fun i hi => (hbc i hi).1, hyc⟩, hbl, hyl, fun i hi => (hbc i hi).2.1⟩
end Cat
end Go.Proofs.Ytiabnjmblcogmaa
end
section
namespace Go.Proofs.Ytiabnjmblcogmaa
open Go.RowKit Go.ChangeAt Go.WideShapes Go.WideElems Go.ChangeShapes
namespace Quo
open Cat (CatIn BayIn chkC nob noy Cam Lies Blues Bays IsCat Small at_addr In64 cat_cells)
open Rec (BlueIn Stk Stks stkVals)
open Pen (below2 below_al below_dN)
/-- Two numbers that came in as an array. -/
def IsTwo (k : IntKind) (v : Value) (l : Int × Int) : Prop := v = .agg #[.int k l.1, .int k l.2] ∧ (Lit.int k l.1).wf = true ∧ (Lit.int k l.2).wf = true
theorem trod_array2 {H : Type} {enc : TypeId × Value → H} {P : Program} {w : World} {base : Nat} {spare : Nat → Bool} {held : Bool} {t e : TypeId} {fuel : Nat} {c0 c1 : Value} {x : DataW H × List MemPlace} (ht : P.underlying t = some (.array 2 e)) (hce : P.cellsOf e = 1)
    (h : DataW.trod enc P w base spare held fuel t [c0, c1] = some x) :
    ∃ y0 y1 n, DataW.trod enc P w base spare held n e [c0] = some y0 ∧ DataW.trod enc P w base spare held n e [c1] = some y1 := by
  cases fuel with
  | zero => simp [DataW.trod] at h
  | succ n =>
    unfold DataW.trod at h
    rw [ht] at h
    have r2 : List.range 2 = [0, 1] := rfl
    simp [r2, hce] at h
    obtain ⟨_, h⟩ := h
    cases h0 : DataW.trod enc P w base spare held n e [c0] with
    | none => simp [h0] at h
    | some y0 =>
      cases h1 : DataW.trod enc P w base spare held n e [c1] with
      | none => simp [h0, h1] at h
      | some y1 => exact ⟨y0, y1, n, h0, h1⟩
theorem isTwo_of {H : Type} {enc : TypeId × Value → H} {P : Program} {t e : TypeId} {k : IntKind} (ht : P.underlying t = some (.array 2 e)) (he : P.underlying e = some (.int k)) (hc : P.cellsOf e = 1) (hct : P.cellsOf t = 2) {W : World} {r : Reach} {b0 : Nat} {v : Value} {d : DataW H} {p : List MemPlace} {base : Nat} {spare held : _}
    (hv : Value.okWide P W r b0 t v) (h : DataW.Trod enc P W base spare held t v d p) : ∃ l, IsTwo k v l := by
  obtain ⟨cs, rfl, hsz, _⟩ : ∃ cs, v = .agg cs ∧ cs.size = P.cellsOf t ∧ Row.okWide P W r b0 t cs := by
    simpa [Value.okWide, ht] using hv
  rw [hct] at hsz
  obtain ⟨l⟩ := cs
  match l, hsz with
  | [c0, c1], _ =>
    obtain ⟨fuel, hf⟩ := h
    obtain ⟨y0, y1, m, hy0, hy1⟩ := trod_array2 ht hc hf
    obtain ⟨x0, e0, -, w0⟩ := DataW.trod_int he hy0
    obtain ⟨x1, e1, -, w1⟩ := DataW.trod_int he hy1
    simp at e0 e1
    subst e0 e1
    exact ⟨(x0, x1), rfl, w0, w1⟩
set_option maxRecDepth 100000 in
theorem two_any (v : Value) {H : Type} {enc : TypeId × Value → H} {W : World} {r : Reach} {b0 : Nat} {d : DataW H} {p : List MemPlace} {base : Nat} {spare held : _}
    (hv : Value.okWide Try.prog W r b0 28 v) (h : DataW.Trod enc Try.prog W base spare held 28 v d p) : ∃ l, IsTwo .i64 v l :=
  isTwo_of Try.underlying28 Try.underlying3 (by kernel_rfl) (by kernel_rfl) hv h
section
variable {H : Type} {enc : TypeId × Value → H} {W : World} {base n : Nat} {spare : Nat → Bool} {held : Bool}
theorem cell_spans : Try.prog.cellsOf 46 = 2 ∧ Try.prog.cellsOf 32 = 1 ∧ Try.prog.cellsOf 29 = 1 ∧ Try.prog.cellsOf 42 = 2 := ⟨by kernel_rfl, by kernel_rfl, by kernel_rfl, by kernel_rfl⟩
theorem slice_spans {v : Value} {y : DataW H × List MemPlace} (h : DataW.trod enc Try.prog W base spare held n 32 [v] = some y) : ∃ a l cap, v = .slice a l.length cap ∧ l.length ≤ maxLen ∧ Stks W a l ∧ ∀ k, k < l.length → In64 (l.getD k (0, 0)).1 ∧ In64 (l.getD k (0, 0)).2 := by
  rcases Go.Deep.open_slice_pairs Try.underlying32 Try.underlying46 cell_spans.1 rfl rfl cat_cells.1 cat_cells.1 h with ⟨hcs, _⟩ | ⟨x, len, cap, m, n', V0, V1, D0, D1, P0, P1, hcs, _, hl, hm, hmm, _, hcell⟩
  · simp at hcs
    subst hcs
    exact ⟨none, [], 0, rfl, Nat.zero_le _, fun i hi => absurd hi (Nat.not_lt_zero i), fun i hi => absurd hi (Nat.not_lt_zero i)⟩
  · simp at hcs
    subst hcs
    have hlz : len ≤ m := by rw [hmm]; split <;> omega
    have hll : ((List.range len).map fun i => ((intOf (V0 i), intOf (V1 i)) : Stk)).length = len := by simp
    have each : ∀ i, i < len → ((List.range len).map fun i => ((intOf (V0 i), intOf (V1 i)) : Stk)).getD i (0, 0) = (intOf (V0 i), intOf (V1 i)) := fun i hi => by simp [List.getD, hi]
    refine ⟨some x, (List.range len).map fun i => (intOf (V0 i), intOf (V1 i)), cap, by rw [hll], by rw [hll]; omega, fun i hi => ?_, fun i hi => ?_⟩
    · rw [hll] at hi
      obtain ⟨h0, h1, t0, t1⟩ := hcell i (by omega)
      obtain ⟨z0, e0, -, -⟩ := DataW.trod_int Try.underlying3 t0
      obtain ⟨z1, e1, -, -⟩ := DataW.trod_int Try.underlying3 t1
      simp at e0 e1
      obtain ⟨b, off, rfl, hb, hj⟩ := at_addr ⟨_, (hcell 0 (by omega)).1⟩
      rw [hj] at h0 h1
      refine ⟨b, off, rfl, hb, ?_, ?_⟩
      · rw [h0, each i hi, e0]; rfl
      · rw [show off + i * 2 + 1 = off + (i * 2 + 1) from rfl, h1, each i hi, e1]; rfl
    · rw [hll] at hi
      obtain ⟨h0, h1, t0, t1⟩ := hcell i (by omega)
      obtain ⟨z0, e0, -, w0⟩ := DataW.trod_int Try.underlying3 t0
      obtain ⟨z1, e1, -, w1⟩ := DataW.trod_int Try.underlying3 t1
      simp at e0 e1
      rw [each i hi, e0, e1]
      exact ⟨w0, w1⟩
end
/-- Runs and times that came. -/
def IsRest (W : World) (v : Value) (x : List Int × List Stk) : Prop := ∃ a cap sa sc, v = .agg #[.slice a x.1.length cap, .slice sa x.2.length sc] ∧ x.1.length ≤ maxLen ∧ In.Ints .i64 W a x.1 ∧ x.2.length ≤ maxLen ∧ Stks W sa x.2 ∧ ∀ k, k < x.2.length → In64 (x.2.getD k (0, 0)).1 ∧ In64 (x.2.getD k (0, 0)).2
set_option maxRecDepth 100000 in
theorem isRest_of {H : Type} {enc : TypeId × Value → H} {W : World} {r : Reach} {b0 : Nat} {v : Value} {d : DataW H} {p : List MemPlace} {base : Nat} {spare held : _}
    (hv : Value.okWide Try.prog W r b0 42 v) (h : DataW.Trod enc Try.prog W base spare held 42 v d p) : ∃ x, IsRest W v x := by
  obtain ⟨cs, rfl, hsz⟩ := okWide_struct Try.underlying42 hv
  rw [cell_spans.2.2.2] at hsz
  obtain ⟨l⟩ := cs
  match l, hsz with
  | [c0, c1], _ =>
    obtain ⟨fuel, hf⟩ := h
    obtain ⟨xs, n, _, hx, _, hlen, hg⟩ := DataW.trod_struct Try.underlying42 hf
    match xs, hlen with
    | [y0, y1], _ =>
      have k0 := cell_spans.2.2.1
      have k1 := cell_spans.2.1
      have g0 := hg 0 _ rfl
      have g1 := hg 1 _ rfl
      simp [Value.cells, k0, k1] at g0 g1
      obtain ⟨sa, sl, sc, rfl, hsl, hst, hsw⟩ := slice_spans g1
      rcases open_ints Try.underlying29 Try.underlying3 cat_cells.1 g0 with ⟨hcs, _⟩ | ⟨x, l, c, ss, hcs, _, hl, hm, hz, _, hcell, hws⟩
      · simp at hcs
        subst hcs
        exact ⟨([], sl), none, 0, sa, sc, rfl, Nat.zero_le _, fun i hi => absurd hi (Nat.not_lt_zero i), hsl, hst, hsw⟩
      · simp at hcs
        subst hcs
        have hlz : l ≤ ss.length := by rw [hz]; split <;> omega
        have hl2 : (ss.take l).length = l := by rw [List.length_take, Nat.min_eq_left hlz]
        refine ⟨(ss.take l, sl), some x, c, sa, sc, by rw [hl2], by rw [hl2]; omega, fun i hi => ?_, hsl, hst, hsw⟩
        rw [hl2] at hi
        obtain ⟨b, off, rfl, hb, hc⟩ := In.cell_addrI (hcell i (by omega)) ⟨_, hcell 0 (by omega)⟩
        refine ⟨b, off, rfl, hb, ?_⟩
        rw [hc]
        simp [List.getD, hi]
end Quo
end Go.Proofs.Ytiabnjmblcogmaa
end
