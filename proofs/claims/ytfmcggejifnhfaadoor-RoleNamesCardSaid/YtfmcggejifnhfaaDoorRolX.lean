/- The walk of RoleNames. -/
import Derived.Test.YtfmcggejifnhfaaDoorRolV
import Derived.Test.YtfmcggejifnhfaaDoorRolA
namespace Go.Proofs.YtfmcggejifnhfaaDoor
open Go.RowKit
namespace Rol
set_option maxHeartbeats 4000000 in
theorem roleNames_walk (n : Int) (_hn : (Lit.int .i64 n).wf = true) (s : ByteArray) (_hs : s.size ≤ maxLen) (m : Int) (w : World) (hm : w.cell? ⟨0, 0, none⟩ = some (.int .i64 m)) :
    Calls Tryd.prog 3 #[.int .i64 n, .string s] w fun e w' => e = .returned (.bool true) ∧ Below w.heap.size w w' := by
  have h0 := Lib.hid (block_lt_of_cell hm)
  have HM := Lib.hid hm
  have hB0 : Hid (Below w.heap.size w w) := Below.refl _ _
  clear hm
  by_cases hlen : s.size ≤ 256
  case neg =>
    have dl : decide ((256 : Int) < (s.size : Int)) = true := decide_eq_true (by omega)
    clear hlen
    go_enter Tryd.func3, Tryd.ntmps3
    go_wp2_with (go_at_call 6; ((with_reducible refine (awake_any m _ HM.out).mono ?_); rintro e w1 ⟨rfl, hb1⟩))
    go_ret
    exact ⟨rfl, hb1⟩
  have dl : decide ((256 : Int) < (s.size : Int)) = false := decide_eq_false (by omega)
  have C3 : Hid (∀ W : World, W.cell? ⟨0, 0, none⟩ = some (.int .i64 m) → Calls Tryd.prog 9 #[.string s] W fun e w' => e = .returned (.tuple #[.int .i64 (ofV s).1, .int .i64 (ofV s).2]) ∧ Below W.heap.size W w') := fun W h => of_any s m W (by omega) h
  have C4 : Hid (∀ W : World, Calls Tryd.prog 10 #[.string s] W fun e w' => e = .returned (.tuple #[.int .i64 (ofV s).1, .int .i64 (ofV s).2]) ∧ Below W.heap.size W w') := fun W => refOf_any s W hlen
  generalize (ofV s).1 = O1 at *
  generalize (ofV s).2 = O2 at *
  have N1 := fun W => names_any n W
  have N2 := fun W => refNames_any n W
  cases hp : isP n
  · rw [hp] at N1 N2
    have C1 : Hid (∀ W : World, Calls Tryd.prog 7 #[.int .i64 n] W fun e w' => e = .returned (.tuple #[.string ⟨#[]⟩, .int .i64 1]) ∧ Below W.heap.size W w') := N1
    have C2 : Hid (∀ W : World, Calls Tryd.prog 8 #[.int .i64 n] W fun e w' => e = .returned (.tuple #[.string ⟨#[]⟩, .int .i64 1]) ∧ Below W.heap.size W w') := N2
    have C5 : Hid (∀ W : World, W.cell? ⟨0, 0, none⟩ = some (.int .i64 m) → Calls Tryd.prog 9 #[.string ⟨#[]⟩] W fun e w' => e = .returned (.tuple #[.int .i64 (ofV ⟨#[]⟩).1, .int .i64 (ofV ⟨#[]⟩).2]) ∧ Below W.heap.size W w') := fun W h => of_any ⟨#[]⟩ m W (by decide) h
    generalize (ofV ⟨#[]⟩).1 = Q1 at *
    generalize (ofV ⟨#[]⟩).2 = Q2 at *
    clear N1 N2 hp hlen
    go_enter Tryd.func3, Tryd.ntmps3
    go_wp2_with (first
      | (go_at_call 6; (have tok := hB5; (with_reducible refine (awake_any m _ ((hB5.out.cell h0.out).trans HM.out)).mono ?_); rintro e w6 ⟨rfl, hb6⟩; clear tok; have hB6 := Lib.hid (below2 hB5.out hb6)))
      | (go_at_call 9; (have tok := hB4; (with_reducible refine (C5.out _ ((hB4.out.cell h0.out).trans HM.out)).mono ?_); rintro e w5 ⟨rfl, hb5⟩; clear tok; have hB5 := Lib.hid (below2 hB4.out hb5)))
      | (go_at_call 10; (have tok := hB3; (with_reducible refine (C4.out _).mono ?_); rintro e w4 ⟨rfl, hb4⟩; clear tok; have hB4 := Lib.hid (below2 hB3.out hb4)))
      | (go_at_call 9; (have tok := hB2; (with_reducible refine (C3.out _ ((hB2.out.cell h0.out).trans HM.out)).mono ?_); rintro e w3 ⟨rfl, hb3⟩; clear tok; have hB3 := Lib.hid (below2 hB2.out hb3)))
      | (go_at_call 8; (have tok := hB1; (with_reducible refine (C2.out _).mono ?_); rintro e w2 ⟨rfl, hb2⟩; clear tok; have hB2 := Lib.hid (below2 hB1.out hb2)))
      | (go_at_call 7; (have tok := hB0; (with_reducible refine (C1.out _).mono ?_); rintro e w1 ⟨rfl, hb1⟩; clear tok; have hB1 := Lib.hid (below2 hB0.out hb1))))
    go_ret
    exact ⟨rfl, hB6.out⟩
  · obtain ⟨x, hx, rfl⟩ := isP_yes hp
    rw [hp] at N1 N2
    have hsz : (namesV x).size ≤ 80 := by
      rw [namesV_join]
      split
      · decide
      · exact joinB_small x 8 (Nat.le_refl 8)
    have C1 : Hid (∀ W : World, Calls Tryd.prog 7 #[.int .i64 (x : Int)] W fun e w' => e = .returned (.tuple #[.string (namesV x), .int .i64 0]) ∧ Below W.heap.size W w') := N1
    have C2 : Hid (∀ W : World, Calls Tryd.prog 8 #[.int .i64 (x : Int)] W fun e w' => e = .returned (.tuple #[.string (namesV x), .int .i64 0]) ∧ Below W.heap.size W w') := N2
    have C5 : Hid (∀ W : World, W.cell? ⟨0, 0, none⟩ = some (.int .i64 m) → Calls Tryd.prog 9 #[.string (namesV x)] W fun e w' => e = .returned (.tuple #[.int .i64 (x : Int), .int .i64 0]) ∧ Below W.heap.size W w') := fun W h => by
      have := of_any (namesV x) m W (by omega) h
      rwa [back_all x hx] at this
    generalize namesV x = NA at *
    generalize (x : Int) = X at *
    clear N1 N2 hp hlen hx hsz
    go_enter Tryd.func3, Tryd.ntmps3
    go_wp2_with (first
      | (go_at_call 6; (have tok := hB5; (with_reducible refine (awake_any m _ ((hB5.out.cell h0.out).trans HM.out)).mono ?_); rintro e w6 ⟨rfl, hb6⟩; clear tok; have hB6 := Lib.hid (below2 hB5.out hb6)))
      | (go_at_call 9; (have tok := hB4; (with_reducible refine (C5.out _ ((hB4.out.cell h0.out).trans HM.out)).mono ?_); rintro e w5 ⟨rfl, hb5⟩; clear tok; have hB5 := Lib.hid (below2 hB4.out hb5)))
      | (go_at_call 10; (have tok := hB3; (with_reducible refine (C4.out _).mono ?_); rintro e w4 ⟨rfl, hb4⟩; clear tok; have hB4 := Lib.hid (below2 hB3.out hb4)))
      | (go_at_call 9; (have tok := hB2; (with_reducible refine (C3.out _ ((hB2.out.cell h0.out).trans HM.out)).mono ?_); rintro e w3 ⟨rfl, hb3⟩; clear tok; have hB3 := Lib.hid (below2 hB2.out hb3)))
      | (go_at_call 8; (have tok := hB1; (with_reducible refine (C2.out _).mono ?_); rintro e w2 ⟨rfl, hb2⟩; clear tok; have hB2 := Lib.hid (below2 hB1.out hb2)))
      | (go_at_call 7; (have tok := hB0; (with_reducible refine (C1.out _).mono ?_); rintro e w1 ⟨rfl, hb1⟩; clear tok; have hB1 := Lib.hid (below2 hB0.out hb1))))
    go_ret
    exact ⟨rfl, hB6.out⟩
end Rol
end Go.Proofs.YtfmcggejifnhfaaDoor
