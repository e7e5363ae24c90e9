/- The law's own check of the plain blueprint. -/
import Derived.Test.YtblefohjnmmpmaaRecA
namespace Go.Proofs.Ytblefohjnmmpmaa
open Go.RowKit
namespace Rec
theorem box_old {w w1 : World} {cs : Array Value} {t : TypeId} (h : Below (w.alloc (.cells cs t)).heap.size (w.alloc (.cells cs t)) w1) {g : Nat} (hg : g < w.heap.size) (i : Nat) : w1.cell? ⟨g, i, none⟩ = w.cell? ⟨g, i, none⟩ := by
  refine (h.cell (by rw [World.size_alloc]; exact Nat.lt_succ_of_lt hg)).trans ?_
  exact ((Below.refl w.heap.size w).alloc (Nat.le_refl _) _).cell hg
theorem aw_same (a b : Option Addr) (c1 : Nat) (W : World) (h1 : Stks W a [(1, 29), (2, 3)]) (h2 : Stks W b [(1, 29), (2, 3)]) : Calls Try.prog 14 #[.slice a 2 c1, .slice b 2 2] W fun e w' => e = .returned (.bool true) ∧ Below W.heap.size W w' := same_any a b c1 2 [(1, 29), (2, 3)] [(1, 29), (2, 3)] (by decide) (by decide) W h1 h2
set_option maxRecDepth 100000 in
set_option maxHeartbeats 4000000 in
theorem awake_any (w : World) : Calls Try.prog 7 #[] w fun e w' => e = .returned (.bool true) ∧ Below w.heap.size w w' := by
  have hB0 : Hid (Below w.heap.size w w) := Below.refl _ _
  go_enter Try.func7, Try.ntmps7
  go_wp2_with (first
    | (go_at_call 15; ((with_reducible refine (aw_check a12 _ HP12.out).mono ?_); rintro e w13 ⟨rfl, hb13⟩; have hB13 := Lib.hid (below2 hB12.out hb13); have HS13 := Lib.hid (HS12.out.below hb13); have r13 := (hb13.cell s12.out).trans r12; have q13 := (hb13.cell s12.out).trans q12; have s13 := Lib.hid (Nat.lt_of_lt_of_le s12.out hb13.size); clear r12 q12 s12))
    | (go_at_call 23; (have tok := hB11; (with_reducible refine (plain_any _).mono ?_); rintro e w12 ⟨a12, rfl, HP12, hb12⟩; clear tok; have hB12 := Lib.hid (below2 hB11.out hb12); have HS12 := Lib.hid (HS11.out.below hb12); have r12 := (hb12.cell s11.out).trans r11; have q12 := (hb12.cell s11.out).trans q11; have s12 := Lib.hid (Nat.lt_of_lt_of_le s11.out hb12.size); clear r11 q11 s11))
    | (go_at_call 14; ((with_reducible refine (aw_same _ _ _ _ (HS10.out.below ((Below.refl _ _).alloc (Nat.le_refl _) _)) (stks_two _ _ _ _ _ _)).mono ?_); rintro e w11 ⟨rfl, hb11⟩; have hB11 := Lib.hid (below2 (below_al hB10.out _) hb11); have HS11 := Lib.hid ((HS10.out.below ((Below.refl _ _).alloc (Nat.le_refl _) _)).below hb11); have al11 := box_old hb11 s10.out; have r11 := (al11 0).trans r10; have q11 := (al11 1).trans q10; have s11 := Lib.hid (Nat.lt_trans s10.out (box_lt hb11)); clear al11; clear r10 q10 s10))
    | (go_at_call 17; ((with_reducible refine (aw_runs a9 _ HP9.out).mono ?_); rintro e w10 ⟨rfl, hb10⟩; have hB10 := Lib.hid (below2 hB9.out hb10); have HS10 := Lib.hid (HS9.out.below hb10); have r10 := (hb10.cell s9.out).trans r9; have q10 := (hb10.cell s9.out).trans q9; have s10 := Lib.hid (Nat.lt_of_lt_of_le s9.out hb10.size); clear r9 q9 s9))
    | (go_at_call 23; (have tok := hB8; (with_reducible refine (plain_any _).mono ?_); rintro e w9 ⟨a9, rfl, HP9, hb9⟩; clear tok; have hB9 := Lib.hid (below2 hB8.out hb9); have HS9 := Lib.hid (HS8.out.below hb9); have r9 := (hb9.cell s8.out).trans r8; have q9 := (hb9.cell s8.out).trans q8; have s9 := Lib.hid (Nat.lt_of_lt_of_le s8.out hb9.size); clear r8 q8 s8))
    | (go_at_call 18; ((with_reducible refine (aw_study a7 _ HP7.out).mono ?_); rintro e w8 ⟨rfl, hb8⟩; have hB8 := Lib.hid (below2 hB7.out hb8); have HS8 := Lib.hid (HS7.out.below hb8); have r8 := (hb8.cell s7.out).trans r7; have q8 := (hb8.cell s7.out).trans q7; have s8 := Lib.hid (Nat.lt_of_lt_of_le s7.out hb8.size); clear r7 q7 s7))
    | (go_at_call 23; (have tok := hB6; (with_reducible refine (plain_any _).mono ?_); rintro e w7 ⟨a7, rfl, HP7, hb7⟩; clear tok; have hB7 := Lib.hid (below2 hB6.out hb7); have HS7 := Lib.hid (HS6.out.below hb7); have r7 := (hb7.cell s6.out).trans r6; have q7 := (hb7.cell s6.out).trans q6; have s7 := Lib.hid (Nat.lt_of_lt_of_le s6.out hb7.size); clear r6 q6 s6))
    | (go_at_call 12; ((with_reducible refine (aw_time a5 _ HP5.out).mono ?_); rintro e w6 ⟨rfl, hb6⟩; have hB6 := Lib.hid (below2 hB5.out hb6); have HS6 := Lib.hid (HS5.out.below hb6); have r6 := (hb6.cell s5.out).trans r5; have q6 := (hb6.cell s5.out).trans q5; have s6 := Lib.hid (Nat.lt_of_lt_of_le s5.out hb6.size)))
    | (go_at_call 23; (have tok := hB4; (with_reducible refine (plain_any _).mono ?_); rintro e w5 ⟨a5, rfl, HP5, hb5⟩; clear tok; have hB5 := Lib.hid (below2 (below_al hB4.out _) hb5); have HS5 := Lib.hid ((HS4.out.below ((Below.refl _ _).alloc (Nat.le_refl _) _)).below hb5); have r5 := box_cell hb5 0; have q5 := box_cell hb5 1; simp only [List.getElem?_toArray, List.getElem?_cons_zero, List.getElem?_cons_succ] at r5 q5; have s5 := Lib.hid (box_lt hb5)))
    | (go_at_call 10; ((with_reducible refine (aw_makes a3 _ HP3.out).mono ?_); rintro e w4 ⟨rfl, hb4⟩; have hB4 := Lib.hid (below2 hB3.out hb4); have HS4 := Lib.hid (HS3.out.below hb4)))
    | (go_at_call 23; (have tok := hB2; (with_reducible refine (plain_any _).mono ?_); rintro e w3 ⟨a3, rfl, HP3, hb3⟩; clear tok; have hB3 := Lib.hid (below2 hB2.out hb3); have HS3 := Lib.hid (HS2.out.below hb3)))
    | (go_at_call 8; ((with_reducible refine (aw_needs a1 _ HP1.out).mono ?_); rintro e w2 ⟨⟨al, cl, rfl, HS2⟩, hb2⟩; have hB2 := Lib.hid (below2 hB1.out hb2)))
    | (go_at_call 23; (have tok := hB0; (with_reducible refine (plain_any _).mono ?_); rintro e w1 ⟨a1, rfl, HP1, hb1⟩; clear tok; have hB1 := Lib.hid (below2 hB0.out hb1))))
  go_ret
  exact ⟨rfl, hB13.out⟩
end Rec
end Go.Proofs.Ytblefohjnmmpmaa
