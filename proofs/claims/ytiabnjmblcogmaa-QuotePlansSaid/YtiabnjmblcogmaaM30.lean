/- Texts put together: QuoL1. -/
import Derived.Test.YtiabnjmblcogmaaM29
set_option linter.all false
section
namespace Go.Proofs.Ytiabnjmblcogmaa
open Go.RowKit
namespace Quo
open Cat (CatIn BayIn chkC nob noy Cam Lies Blues Bays IsCat Small Box box_new box_b box_next Few_any)
open Rec (BlueIn Stk Stks stkVals)
open Pen (below2 below_al below_dN)
set_option maxRecDepth 100000 in
set_option maxHeartbeats 8000000 in
theorem plans_any {w : World} (v0 : Value) (c : CatIn) (hc : IsCat w v0 c) (v1 : Value) (x : Int × Int) (hx : IsTwo .i64 v1 x) (v2 : Value) (l : List Int) (hl2 : In.IsInts .i64 w v2 l) :
    Calls Try.prog 3 #[v0, v1, v2] w fun e w' => e = .returned (.bool true) ∧ Below w.heap.size w w' := by
  obtain ⟨rfl, h1, h2, h3, h4, h5⟩ := hc
  have HI : CatCame w c := ⟨h1, h2, h3, h4, h5⟩
  obtain ⟨rfl, hx1, hx2⟩ := hx
  obtain ⟨a, cap, rfl, hlm, hI, hlw, hlc, hcm⟩ := hl2
  obtain ⟨x1, x2⟩ := x
  dsimp only at *
  have hB0 := Lib.hid (box2_new w c x1 x2 27 28)
  have CA : Hid (∀ W, Calls Try.prog 7 #[] W fun e w' => e = .returned (.bool true) ∧ Below W.heap.size W w') := fun W => awake_any W
  have CF : Hid (∀ W, Below w.heap.size w W → Calls Try.prog 6 #[.agg c.val] W fun e w' => ∃ b : Bool, e = .returned (.bool b) ∧ Hid (b = true → Small c) ∧ Below W.heap.size W w') := fun W h => Few_any c W (HI.lies.below h) HI.bl HI.yl HI.nl
  have C1 : Hid (Small c → l.length ≤ 20 → ∀ W, Below w.heap.size w W → Calls Try.prog 8 #[.agg c.val, .int .i64 x1, .slice a l.length cap, .int .i64 x2] W (PlanRes (planV c x1 l x2) W)) := fun hs hl W h => plan_any c W ((HI.cam hs).below h) x1 a cap l hl (hI.below h) x2
  have C2 : Hid (Small c → l.length ≤ 20 → ∀ W, Below w.heap.size w W → Calls Try.prog 9 #[.agg c.val, .int .i64 x1, .slice a l.length cap, .int .i64 x2] W (PlanRes (planV c x1 l x2) W)) := fun hs hl W h => refPlan_any c W ((HI.cam hs).below h) x1 a cap l hl (hI.below h) x2
  have C3 : Hid (Small c → l.length ≤ 20 → ∀ W, Below w.heap.size w W → Calls Try.prog 10 #[.agg c.val, .int .i64 x1, .slice a l.length cap, .int .i64 x2] W fun e w' => e = .returned (.tuple #[.int .i64 (feeV c x1 l x2).1, .int .i64 (feeV c x1 l x2).2]) ∧ Below W.heap.size W w') := fun hs hl W h => fee_any c W ((HI.cam hs).below h) x1 a cap l hl (hI.below h) x2
  have C4 : Hid (Small c → l.length ≤ 20 → ∀ W, Below w.heap.size w W → Calls Try.prog 11 #[.agg c.val, .int .i64 x1, .slice a l.length cap, .int .i64 x2] W fun e w' => e = .returned (.tuple #[.int .i64 (feeV c x1 l x2).1, .int .i64 (feeV c x1 l x2).2]) ∧ Below W.heap.size W w') := fun hs hl W h => refFee_any c W ((HI.cam hs).below h) x1 a cap l hl (hI.below h) x2
  have C5 : Hid (Small c → l.length ≤ 20 → ∀ W, Below w.heap.size w W → Calls Try.prog 12 #[.agg c.val, .slice a l.length cap, .int .i64 x2] W fun e w' => e = .returned (.tuple #[.int .i64 (cheapV c l x2).1, .int .i64 (cheapV c l x2).2]) ∧ Below W.heap.size W w') := fun hs hl W h => cheapest_any c W ((HI.cam hs).below h) a cap l hl (hI.below h) x2
  have C6 : Hid (Small c → l.length ≤ 20 → ∀ W, Below w.heap.size w W → Calls Try.prog 13 #[.agg c.val, .slice a l.length cap, .int .i64 x2] W fun e w' => e = .returned (.tuple #[.int .i64 (cheapV c l x2).1, .int .i64 (cheapV c l x2).2]) ∧ Below W.heap.size W w') := fun hs hl W h => refCheapest_any c W ((HI.cam hs).below h) a cap l hl (hI.below h) x2
  obtain ⟨⟨vl, ve⟩, hV⟩ : ∃ V, Hid (planV c x1 l x2 = V) := ⟨_, rfl⟩
  have HVL : Hid (Small c → vl.length ≤ 4096) := fun hs => by
    have h6 := planV_len c x1 l x2
    rw [hV.out] at h6
    have := hs.1
    exact Nat.le_trans h6 (by omega)
  rw [hV.out] at C1 C2
  generalize (feeV c x1 l x2).1 = f1 at *
  generalize (feeV c x1 l x2).2 = f2 at *
  generalize (cheapV c l x2).1 = g1 at *
  generalize (cheapV c l x2).2 = g2 at *
  clear h1 h2 h3 h4 h5 hI hlw hV
  clear HI
  have CS : Hid (vl.length ≤ 4096 → ∀ W (a2 b2 : Option Addr) (c1 c2 : Nat), Stks W a2 vl → Stks W b2 vl → Calls Try.prog 14 #[.slice a2 vl.length c1, .slice b2 vl.length c2] W fun e w' => e = .returned (.bool true) ∧ Below W.heap.size W w') := fun h W a2 b2 c1 c2 h1 h2 => by
    have := sameSpans_any a2 b2 c1 c2 vl vl h h W h1 h2
    rw [decide_eq_true rfl] at this
    exact this
  obtain ⟨W0, hW0⟩ : ∃ W0, Hid ((w.alloc (.cells c.val 27)).alloc (.cells #[.int .i64 x1, .int .i64 x2] 28) = W0) := ⟨_, rfl⟩
  rw [hW0.out] at hB0
  have HB0 := hB0
  unfold CatIn.val at *
  go_enter Try.func3, Try.ntmps3
  go_upto_region 1 with (fail)
  rw [hW0.out]
  clear hW0
  obtain ⟨⟨-, l0, d0_0, d0_1, d0_2, d0_3, d0_4, d0_5, d0_6, d0_7⟩, m0, n0_0, n0_1⟩ := hB0.out
  by_cases hlen : (20 : Int) < (l.length : Int)
  · go_wp2_with (first
      | (go_at_call 7; ((with_reducible refine (CA.out _).mono ?_); rintro e w20 ⟨rfl, hb20⟩; have HZ := Lib.hid hb20; clear hb20))
      | (go_at_call 6; (have tok := HB0; (with_reducible refine (CF.out _ (box2_b HB0.out)).mono ?_); rintro e w1 ⟨b, rfl, HS, hb1⟩; clear tok; have HB1 := Lib.hid (box2_next HB0.out hb1); obtain ⟨⟨-, l1, d1_0, d1_1, d1_2, d1_3, d1_4, d1_5, d1_6, d1_7⟩, m1, n1_0, n1_1⟩ := HB1.out; clear HB0 l0 d0_0 d0_1 d0_2 d0_3 d0_4 d0_5 d0_6 d0_7 m0 n0_0 n0_1; (cases b <;> (try (replace HS := Lib.hid (HS.out rfl)))))))
    all_goals go_ret
    all_goals exact ⟨rfl, below2 (box2_b HB1.out) HZ.out⟩
  · have hl20 : l.length ≤ 20 := by omega
    go_wp2_with (first
      | (go_at_call 7; ((with_reducible refine (CA.out _).mono ?_); rintro e w20 ⟨rfl, hb20⟩; have HZ := Lib.hid hb20; clear hb20))
      | (go_at_call 14; (have tok := HB7; (with_reducible refine (CS.out (HVL.out HS.out) _ _ _ _ _ P7.out R7.out).mono ?_); rintro e w8 ⟨rfl, hb8⟩; clear tok; have HB8 := Lib.hid (box2_next HB7.out hb8); obtain ⟨⟨-, l8, d8_0, d8_1, d8_2, d8_3, d8_4, d8_5, d8_6, d8_7⟩, m8, n8_0, n8_1⟩ := HB8.out; have P8 := Lib.hid (P7.out.below hb8); have R8 := Lib.hid (R7.out.below hb8); clear HB7 l7 d7_0 d7_1 d7_2 d7_3 d7_4 d7_5 d7_6 d7_7 m7 n7_0 n7_1 P7 R7))
      | (go_at_call 13; (have tok := HB6; (with_reducible refine (C6.out HS.out hl20 _ (box2_b HB6.out)).mono ?_); rintro e w7 ⟨rfl, hb7⟩; clear tok; have HB7 := Lib.hid (box2_next HB6.out hb7); obtain ⟨⟨-, l7, d7_0, d7_1, d7_2, d7_3, d7_4, d7_5, d7_6, d7_7⟩, m7, n7_0, n7_1⟩ := HB7.out; have P7 := Lib.hid (P6.out.below hb7); have R7 := Lib.hid (R6.out.below hb7); clear HB6 l6 d6_0 d6_1 d6_2 d6_3 d6_4 d6_5 d6_6 d6_7 m6 n6_0 n6_1 P6 R6))
      | (go_at_call 12; (have tok := HB5; (with_reducible refine (C5.out HS.out hl20 _ (box2_b HB5.out)).mono ?_); rintro e w6 ⟨rfl, hb6⟩; clear tok; have HB6 := Lib.hid (box2_next HB5.out hb6); obtain ⟨⟨-, l6, d6_0, d6_1, d6_2, d6_3, d6_4, d6_5, d6_6, d6_7⟩, m6, n6_0, n6_1⟩ := HB6.out; have P6 := Lib.hid (P5.out.below hb6); have R6 := Lib.hid (R5.out.below hb6); clear HB5 l5 d5_0 d5_1 d5_2 d5_3 d5_4 d5_5 d5_6 d5_7 m5 n5_0 n5_1 P5 R5))
      | (go_at_call 11; (have tok := HB4; (with_reducible refine (C4.out HS.out hl20 _ (box2_b HB4.out)).mono ?_); rintro e w5 ⟨rfl, hb5⟩; clear tok; have HB5 := Lib.hid (box2_next HB4.out hb5); obtain ⟨⟨-, l5, d5_0, d5_1, d5_2, d5_3, d5_4, d5_5, d5_6, d5_7⟩, m5, n5_0, n5_1⟩ := HB5.out; have P5 := Lib.hid (P4.out.below hb5); have R5 := Lib.hid (R4.out.below hb5); clear HB4 l4 d4_0 d4_1 d4_2 d4_3 d4_4 d4_5 d4_6 d4_7 m4 n4_0 n4_1 P4 R4))
      | (go_at_call 10; (have tok := HB3; (with_reducible refine (C3.out HS.out hl20 _ (box2_b HB3.out)).mono ?_); rintro e w4 ⟨rfl, hb4⟩; clear tok; have HB4 := Lib.hid (box2_next HB3.out hb4); obtain ⟨⟨-, l4, d4_0, d4_1, d4_2, d4_3, d4_4, d4_5, d4_6, d4_7⟩, m4, n4_0, n4_1⟩ := HB4.out; have P4 := Lib.hid (P3.out.below hb4); have R4 := Lib.hid (R3.out.below hb4); clear HB3 l3 d3_0 d3_1 d3_2 d3_3 d3_4 d3_5 d3_6 d3_7 m3 n3_0 n3_1 P3 R3))
      | (go_at_call 9; (have tok := HB2; (with_reducible refine (C2.out HS.out hl20 _ (box2_b HB2.out)).mono ?_); rintro e w3 ⟨ra, rc, rfl, R3, hq3⟩; clear tok; have HB3 := Lib.hid (box2_next HB2.out hq3.out); obtain ⟨⟨-, l3, d3_0, d3_1, d3_2, d3_3, d3_4, d3_5, d3_6, d3_7⟩, m3, n3_0, n3_1⟩ := HB3.out; have P3 := Lib.hid (P2.out.below hq3.out); clear HB2 l2 d2_0 d2_1 d2_2 d2_3 d2_4 d2_5 d2_6 d2_7 m2 n2_0 n2_1 P2))
      | (go_at_call 8; (have tok := HB1; (with_reducible refine (C1.out HS.out hl20 _ (box2_b HB1.out)).mono ?_); rintro e w2 ⟨pa, pc, rfl, P2, hq2⟩; clear tok; have HB2 := Lib.hid (box2_next HB1.out hq2.out); obtain ⟨⟨-, l2, d2_0, d2_1, d2_2, d2_3, d2_4, d2_5, d2_6, d2_7⟩, m2, n2_0, n2_1⟩ := HB2.out; clear HB1 l1 d1_0 d1_1 d1_2 d1_3 d1_4 d1_5 d1_6 d1_7 m1 n1_0 n1_1))
      | (go_at_call 6; (have tok := HB0; (with_reducible refine (CF.out _ (box2_b HB0.out)).mono ?_); rintro e w1 ⟨b, rfl, HS, hb1⟩; clear tok; have HB1 := Lib.hid (box2_next HB0.out hb1); obtain ⟨⟨-, l1, d1_0, d1_1, d1_2, d1_3, d1_4, d1_5, d1_6, d1_7⟩, m1, n1_0, n1_1⟩ := HB1.out; clear HB0 l0 d0_0 d0_1 d0_2 d0_3 d0_4 d0_5 d0_6 d0_7 m0 n0_0 n0_1; (cases b <;> (try (replace HS := Lib.hid (HS.out rfl)))))))
    all_goals go_ret
    all_goals first | exact ⟨rfl, below2 (box2_b HB1.out) HZ.out⟩ | exact ⟨rfl, below2 (box2_b HB8.out) HZ.out⟩
end Quo
end Go.Proofs.Ytiabnjmblcogmaa
end
