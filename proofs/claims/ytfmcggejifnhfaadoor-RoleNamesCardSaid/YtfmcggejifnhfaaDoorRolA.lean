/- What must come, whatever the arguments are. -/
import Derived.Test.YtfmcggejifnhfaaDoorRolO
import Derived.Test.YtfmcggejifnhfaaDoorRolB
namespace Go.Proofs.YtfmcggejifnhfaaDoor
open Go.RowKit
namespace Rol
theorem names_18 : namesV 18 = ⟨#[119, 97, 108, 108, 101, 116, 44, 116, 97, 107, 101, 49]⟩ := by kernel_rfl
theorem of_tw : ofV ⟨#[116, 97, 107, 101, 49, 44, 119, 97, 108, 108, 101, 116]⟩ = (18, 0) := by kernel_rfl
theorem of_ww : ofV ⟨#[119, 97, 108, 108, 101, 116, 44, 119, 97, 108, 108, 101, 116]⟩ = (0, 2) := by kernel_rfl
theorem aw_names (w : World) : Calls Tryd.prog 7 #[.int .i64 18] w fun e w' => e = .returned (.tuple #[.string ⟨#[119, 97, 108, 108, 101, 116, 44, 116, 97, 107, 101, 49]⟩, .int .i64 0]) ∧ Below w.heap.size w w' :=
  (names_any 18 w).mono fun e w' ⟨h1, h2⟩ => ⟨by rw [h1, ← names_18]; rfl, h2⟩
theorem aw_tw (m : Int) (w : World) (hm : w.cell? ⟨0, 0, none⟩ = some (.int .i64 m)) : Calls Tryd.prog 9 #[.string ⟨#[116, 97, 107, 101, 49, 44, 119, 97, 108, 108, 101, 116]⟩] w fun e w' => e = .returned (.tuple #[.int .i64 18, .int .i64 0]) ∧ Below w.heap.size w w' :=
  (of_any ⟨#[116, 97, 107, 101, 49, 44, 119, 97, 108, 108, 101, 116]⟩ m w (by decide) hm).mono fun e w' ⟨h1, h2⟩ => ⟨by rw [h1, of_tw], h2⟩
theorem aw_ww (m : Int) (w : World) (hm : w.cell? ⟨0, 0, none⟩ = some (.int .i64 m)) : Calls Tryd.prog 9 #[.string ⟨#[119, 97, 108, 108, 101, 116, 44, 119, 97, 108, 108, 101, 116]⟩] w fun e w' => e = .returned (.tuple #[.int .i64 0, .int .i64 2]) ∧ Below w.heap.size w w' :=
  (of_any ⟨#[119, 97, 108, 108, 101, 116, 44, 119, 97, 108, 108, 101, 116]⟩ m w (by decide) hm).mono fun e w' ⟨h1, h2⟩ => ⟨by rw [h1, of_ww], h2⟩
theorem aw_take (w : World) : Calls Tryd.prog 14 #[.int .i64 3] w fun e w' => e = .returned (.tuple #[.int .i64 64, .int .i64 0]) ∧ w = w' :=
  (take_any 3 w).mono fun e w' ⟨h1, h2⟩ => ⟨by rw [h1]; rfl, h2⟩
theorem aw_h1 (w : World) : Calls Tryd.prog 12 #[.int .i64 1, .int .i64 255] w fun e w' => e = .returned (.bool true) ∧ w = w' := has_any 1 255 w
theorem aw_h2 (w : World) : Calls Tryd.prog 12 #[.int .i64 18, .int .i64 16] w fun e w' => e = .returned (.bool true) ∧ w = w' := has_any 18 16 w
theorem aw_h3 (w : World) : Calls Tryd.prog 12 #[.int .i64 18, .int .i64 4] w fun e w' => e = .returned (.bool false) ∧ w = w' := has_any 18 4 w
set_option maxHeartbeats 2000000 in
theorem awake_any (m : Int) (w : World) (hm : w.cell? ⟨0, 0, none⟩ = some (.int .i64 m)) : Calls Tryd.prog 6 #[] w fun e w' => e = .returned (.bool true) ∧ Below w.heap.size w w' := by
  have h0 := Lib.hid (block_lt_of_cell hm)
  have HM := Lib.hid hm
  clear hm
  go_enter Tryd.func6, Tryd.ntmps6
  go_wp2_with (first
    | (go_at_call 7; ((with_reducible refine (aw_names _).mono ?_); rintro e w1 ⟨rfl, hb1⟩; replace hb1 := Lib.hid hb1))
    | (go_at_call 9; (have tok := hb1; (with_reducible refine (aw_tw m _ ((hb1.out.cell h0.out).trans HM.out)).mono ?_); rintro e w2 ⟨rfl, hb2⟩; clear tok; replace hb2 := Lib.hid (below2 hb1.out hb2)))
    | (go_at_call 9; (have tok := hb2; (with_reducible refine (aw_ww m _ ((hb2.out.cell h0.out).trans HM.out)).mono ?_); rintro e w3 ⟨rfl, hb3⟩; clear tok; replace hb3 := Lib.hid (below2 hb2.out hb3)))
    | (go_at_call 14; ((with_reducible refine (aw_take _).mono ?_); rintro e w4 ⟨rfl, rfl⟩))
    | (go_at_call 12; ((first | (with_reducible refine (aw_h1 _).mono ?_) | (with_reducible refine (aw_h2 _).mono ?_) | (with_reducible refine (aw_h3 _).mono ?_)); rintro e w5 ⟨rfl, rfl⟩)))
  go_ret
  exact ⟨rfl, hb3.out⟩
end Rol
end Go.Proofs.YtfmcggejifnhfaaDoor
