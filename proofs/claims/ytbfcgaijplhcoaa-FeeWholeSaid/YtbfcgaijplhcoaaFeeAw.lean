/- What must come, whatever the arguments are. -/
import Derived.Test.YtbfcgaijplhcoaaFeeD
import Derived.Test.YtbfcgaijplhcoaaFeeU
namespace Go.Proofs.Ytbfcgaijplhcoaa
open Go.Sort Go.RowKit
namespace Fee
open In (Ints IsInts)
theorem ints_three (W : World) (x y z : Int) (t : TypeId) : Ints .i64 (W.alloc (.cells #[.int .i64 x, .int .i64 y, .int .i64 z] t)) (some ⟨W.heap.size, 0, none⟩) [x, y, z] := by
  intro i hi
  refine ⟨W.heap.size, 0, rfl, by rw [World.size_alloc]; omega, ?_⟩
  match i, hi with
  | 0, _ => go_simp
  | 1, _ => go_simp
  | 2, _ => go_simp
theorem aw_broker (W : World) : Calls Try.prog 11 #[.agg #[.int .i64 100, .int .i64 3, .int .i64 250], .int .i64 1001] W fun e w' => e = .returned (.tuple #[.int .i64 11, .int .i64 0]) ∧ Below W.heap.size W w' :=
  (broker_any ⟨100, 3, 250⟩ 1001 W).mono fun e w' ⟨h1, h2⟩ => ⟨by rw [h1]; rfl, h2⟩
theorem aw_sale (W : World) : Calls Try.prog 13 #[.agg #[.int .i64 100, .int .i64 3, .int .i64 250], .int .i64 1001] W fun e w' => e = .returned (.tuple #[.int .i64 25, .int .i64 0]) ∧ Below W.heap.size W w' :=
  (sale_any ⟨100, 3, 250⟩ 1001 W).mono fun e w' ⟨h1, h2⟩ => ⟨by rw [h1]; rfl, h2⟩
theorem aw_check (W : World) : Calls Try.prog 17 #[.agg #[.int .i64 0, .int .i64 0, .int .i64 (-1)]] W fun e w' => e = .returned (.int .i64 1) ∧ Below W.heap.size W w' :=
  (check_any ⟨0, 0, -1⟩ W).mono fun e w' ⟨h1, h2⟩ => ⟨by rw [h1]; rfl, h2⟩
theorem split_three : splitV 10 [1, 1, 1] = ([4, 3, 3], 0) := by
  have hl : lfTo 10 3 [1, 1, 1] 3 = [1, 1, 1] := by rfl
  have hr := ordL_ranked 10 3 [1, 1, 1]
  have hf := rests_first hr (fun i hi => by rw [show [(1 : Int), 1, 1].length = 3 from rfl, hl]; match i, hi with
    | 0, _ => decide
    | 1, _ => decide
    | 2, _ => decide) 0 (by decide)
  have hf2 : pl (ordL 10 3 [1, 1, 1]) 0 = 0 := by rw [← hf]; rfl
  have ho : outV 10 3 [1, 1, 1] = [4, 3, 3] := by
    unfold outV
    rw [show moN 10 3 [1, 1, 1] = 1 from rfl, incs, hf2]
    rfl
  unfold splitV
  rw [show inR 10 1152921504606846976 = true from rfl, if_pos rfl, show totV [1, 1, 1] = (3, 0) from rfl, if_pos rfl]
  show (outV 10 3 [1, 1, 1], (0 : Int)) = _
  rw [ho]
theorem aw_split (a : Option Addr) (W : World) (h : Ints .i64 W a [1, 1, 1]) : Calls Try.prog 7 #[.int .i64 10, .slice a 3 3] W fun e w' => (∃ a2 c2, e = .returned (.tuple #[.slice a2 3 c2, .int .i64 0]) ∧ Hid (Ints .i64 w' a2 [4, 3, 3])) ∧ Below W.heap.size W w' :=
  (split_any 10 [1, 1, 1] a 3 (by decide) W h).mono fun e w' ⟨a2, c2, h1, h2, h3⟩ => by
    rw [split_three] at h1 h2
    exact ⟨⟨a2, c2, h1, h2⟩, h3⟩
theorem aw_same (a b : Option Addr) (c1 : Nat) (W : World) (h1 : Ints .i64 W a [4, 3, 3]) (h2 : Ints .i64 W b [4, 3, 3]) : Calls Try.prog 9 #[.slice a 3 c1, .slice b 3 3] W fun e w' => e = .returned (.bool true) ∧ Below W.heap.size W w' :=
  same_any a b c1 3 [4, 3, 3] [4, 3, 3] (by decide) (by decide) W h1 h2
set_option maxRecDepth 100000 in
set_option maxHeartbeats 4000000 in
theorem awake_any (w : World) : Calls Try.prog 6 #[] w fun e w' => e = .returned (.bool true) ∧ Below w.heap.size w w' := by
  have hB0 : Hid (Below w.heap.size w (w.alloc (.cells #[.int .i64 100, .int .i64 3, .int .i64 250] 32))) := (Below.refl _ _).alloc (Nat.le_refl _) _
  go_enter Try.func6, Try.ntmps6
  go_wp2_with (first
    | (go_at_call 11; ((with_reducible refine (aw_broker _).mono ?_); rintro e w1 ⟨rfl, hb1⟩; have hB1 := Lib.hid (below2 hB0.out hb1); have c0 := box_cell hb1 0; have c1 := box_cell hb1 1; have c2 := box_cell hb1 2; simp only [List.getElem?_toArray, List.getElem?_cons_zero, List.getElem?_cons_succ] at c0 c1 c2))
    | (go_at_call 13; ((with_reducible refine (aw_sale _).mono ?_); rintro e w2 ⟨rfl, hb2⟩; have hB2 := Lib.hid (below2 hB1.out hb2)))
    | (go_at_call 7; ((with_reducible refine (aw_split _ _ (ints_three _ _ _ _ _)).mono ?_); rintro e w3 ⟨⟨a3, c3, rfl, HI3⟩, hb3⟩; have hB3 := Lib.hid (below2 (below_al hB2.out _) hb3)))
    | (go_at_call 9; ((with_reducible refine (aw_same _ _ _ _ (In.Ints.below HI3.out ((Below.refl _ _).alloc (Nat.le_refl _) _)) (ints_three _ _ _ _ _)).mono ?_); rintro e w4 ⟨rfl, hb4⟩; have hB4 := Lib.hid (below2 (below_al hB3.out _) hb4)))
    | (go_at_call 17; ((with_reducible refine (aw_check _).mono ?_); rintro e w5 ⟨rfl, hb5⟩; have hB5 := Lib.hid (below2 hB4.out hb5))))
  go_ret
  exact ⟨rfl, hB5.out⟩
end Fee
end Go.Proofs.Ytbfcgaijplhcoaa
