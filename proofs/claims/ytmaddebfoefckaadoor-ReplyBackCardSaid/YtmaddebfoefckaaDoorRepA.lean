/- What must come: the walk. -/
import Derived.Test.YtmaddebfoefckaaDoorRepX
import Derived.Test.YtmaddebfoefckaaDoorRepZ
set_option linter.unusedSimpArgs false
set_option linter.unusedVariables false
namespace Go.Proofs.YtmaddebfoefckaaDoor
open Go.RowKit Go.Great Go.Sort
namespace Rep
open Pen (bs bs_append uintB intB I64 intS uintS doneS)
open Go.Lib (decDigits itoa)
def rSeven : RepIn := ⟨0, 7, 0, 2, 0⟩
theorem put_seven : putV rSeven = ([0, 14, 0, 4, 0], 0) := by decide +kernel
theorem take_eight : takeV (ByteArray.mk #[8]).data.toList = (ofE 8, 0) := by decide +kernel
theorem may_seven : May rSeven := by decide
theorem part_7 : part nmId 7 = [32, 105, 100, 61, 55] := by
  unfold part
  rw [if_neg (by decide), itoa_one (by decide)]
  rfl
theorem part_2 : part nmSt 2 = [32, 115, 116, 97, 116, 101, 61, 50] := by
  unfold part
  rw [if_neg (by decide), itoa_one (by decide)]
  rfl
theorem part_0 (nm : List UInt8) : part nm 0 = [] := if_pos rfl
theorem text_seven : textV rSeven = [111, 107, 32, 105, 100, 61, 55, 32, 115, 116, 97, 116, 101, 61, 50] := by
  unfold textV
  rw [if_pos may_seven, if_pos (show rSeven.err = 0 from rfl)]
  unfold okT
  rw [show rSeven.id = 7 from rfl, show rSeven.n = 0 from rfl, show rSeven.st = 2 from rfl, show rSeven.ti = 0 from rfl, part_7, part_0, part_2, part_0]
  rfl
theorem text_eight : textV (ofE 8) = [114, 111, 108, 101] := by
  unfold textV
  rw [if_pos (by decide), if_neg (by decide)]
  rfl
theorem rok_few (r : RepIn) (h : -100 ≤ r.err ∧ r.err ≤ 100 ∧ -100 ≤ r.id ∧ r.id ≤ 100 ∧ -100 ≤ r.n ∧ r.n ≤ 100 ∧ -100 ≤ r.st ∧ r.st ≤ 100 ∧ -100 ≤ r.ti ∧ r.ti ≤ 100) : Rok r := by
  unfold Rok I64
  omega
set_option maxRecDepth 100000 in
set_option maxHeartbeats 2000000 in
theorem awake_any (w : World) (ht : Tab w) : Calls Tryd.prog 5 #[] w fun e w' => e = .returned (.bool true) ∧ Below w.heap.size w w' := by
  have HT := Lib.hid ht
  have CP : Hid (∀ W, Calls Tryd.prog 6 #[.agg #[.int .i64 0, .int .i64 7, .int .i64 0, .int .i64 2, .int .i64 0]] W fun e w' => e = .returned (.tuple #[.string ⟨#[0, 14, 0, 4, 0]⟩, .int .i64 0]) ∧ Below W.heap.size W w') := fun W => by
    have h := put_any rSeven (rok_few _ (by decide)) W
    rw [put_seven] at h
    exact h
  have CT : Hid (∀ W, Calls Tryd.prog 8 #[.string ⟨#[8]⟩] W fun e w' => e = .returned (.tuple #[.agg #[.int .i64 8, .int .i64 0, .int .i64 0, .int .i64 0, .int .i64 0], .int .i64 0]) ∧ Below W.heap.size W w') := fun W => by
    have h := take_any ⟨#[8]⟩ (by decide) W
    rw [take_eight] at h
    exact h
  have CX1 : Hid (∀ W, Tab W → Calls Tryd.prog 10 #[.agg #[.int .i64 8, .int .i64 0, .int .i64 0, .int .i64 0, .int .i64 0]] W fun e w' => e = .returned (.string ⟨#[114, 111, 108, 101]⟩) ∧ Below W.heap.size W w') := fun W hW => by
    have h := text_any (ofE 8) (rok_few _ (by decide)) W hW
    rw [text_eight] at h
    exact h
  have CX2 : Hid (∀ W, Tab W → Calls Tryd.prog 10 #[.agg #[.int .i64 0, .int .i64 7, .int .i64 0, .int .i64 2, .int .i64 0]] W fun e w' => e = .returned (.string ⟨#[111, 107, 32, 105, 100, 61, 55, 32, 115, 116, 97, 116, 101, 61, 50]⟩) ∧ Below W.heap.size W w') := fun W hW => by
    have h := text_any rSeven (rok_few _ (by decide)) W hW
    rw [text_seven] at h
    exact h
  have CO : Hid (∀ W, Calls Tryd.prog 12 #[.int .i64 4] W fun x w' => x = .returned (.agg #[.int .i64 4, .int .i64 0, .int .i64 0, .int .i64 0, .int .i64 0]) ∧ Below W.heap.size W w') := fun W => of_any 4 W
  clear ht
  go_enter Tryd.func5, Tryd.ntmps5
  go_upto_region 3 with (first
    | (go_at_call 6; (with_reducible refine (CP.out _).mono ?_); rintro e w1 ⟨rfl, hb1⟩; have HW1 := Lib.hid hb1; clear hb1)
    | (go_at_call 8; (with_reducible refine (CT.out _).mono ?_); rintro e w2 ⟨rfl, hb2⟩; have HW2 := Lib.hid (below2 HW1.out hb2); clear hb2))
  refine wp_named fun w3 hw3 => ?_
  have HS3 : Hid (Rp w3 w2.heap.size (ofE 8)) := by rw [hw3]; exact rp_new rfl (ofE 8)
  have HW3 : Hid (Below w.heap.size w w3) := by rw [hw3]; exact below_al HW2.out _
  clear hw3
  obtain ⟨f0, f1, f2, f3, f4⟩ := HS3.out.five
  dsimp only [ofE] at f0 f1 f2 f3 f4
  go_wp2_with (first
    | (go_at_call 10; (with_reducible refine (CX1.out _ (HT.out.below HW3.out)).mono ?_); rintro e w4 ⟨rfl, hb4⟩; have HW4 := Lib.hid (below2 HW3.out hb4); clear hb4)
    | (go_at_call 10; (with_reducible refine (CX2.out _ (HT.out.below HW4.out)).mono ?_); rintro e w5 ⟨rfl, hb5⟩; have HW5 := Lib.hid (below2 HW4.out hb5); clear hb5)
    | (go_at_call 12; (with_reducible refine (CO.out _).mono ?_); rintro e w6 ⟨rfl, hb6⟩; have HW6 := Lib.hid (below2 HW5.out hb6); clear hb6))
  all_goals go_ret
  all_goals exact ⟨rfl, HW6.out⟩
end Rep
end Go.Proofs.YtmaddebfoefckaaDoor
