/- Texts put together: QuoL2. -/
import Derived.Deep.RegionHeld3
import Derived.Test.YtiabnjmblcogmaaM31
import Derived.Test.YtiabnjmblcogmaaM29
set_option linter.all false
section
namespace Go.Proofs.Ytiabnjmblcogmaa
open Go.RowKit
namespace Quo
open Cat (CatIn BayIn chkC nob noy Cam Lies Blues Bays IsCat Small Box box_new box_b box_next Few_any)
open Rec (BlueIn Stk Stks stkVals)
open Pen (below2 below_al below_dN)
/-- What came in lies in three boxes of its own. -/
def Box3 (w : World) (c : CatIn) (x1 x2 : Int) (a : Option Addr) (l : List Int) (cap : Nat) (sa : Option Addr) (s : List Stk) (sc : Nat) (W : World) : Prop := Box2 w c x1 x2 W ∧ w.heap.size + 1 + 1 < W.heap.size ∧ W.cell? ⟨w.heap.size + 1 + 1, 0, none⟩ = some (.slice a l.length cap) ∧ W.cell? ⟨w.heap.size + 1 + 1, 1, none⟩ = some (.slice sa s.length sc)
section
variable {w W' W : World} {c : CatIn} {x1 x2 : Int} {a sa : Option Addr} {l : List Int} {s : List Stk} {cap sc : Nat}
theorem box3_new (t u v : TypeId) : Box3 w c x1 x2 a l cap sa s sc (((w.alloc (.cells c.val t)).alloc (.cells #[.int .i64 x1, .int .i64 x2] u)).alloc (.cells #[.slice a l.length cap, .slice sa s.length sc] v)) :=
  ⟨box2_next (box2_new w c x1 x2 t u) (below_al (Below.refl _ _) _), by simp, by go_simp, by go_simp⟩
theorem box3_next (h : Box3 w c x1 x2 a l cap sa s sc W) (hb : Below W.heap.size W W') : Box3 w c x1 x2 a l cap sa s sc W' :=
  ⟨box2_next h.1 hb, Nat.lt_of_lt_of_le h.2.1 hb.size, (hb.cell (p := ⟨w.heap.size + 1 + 1, 0, none⟩) h.2.1).trans h.2.2.1, (hb.cell (p := ⟨w.heap.size + 1 + 1, 1, none⟩) h.2.1).trans h.2.2.2⟩
theorem box3_drew (h : Box3 w c x1 x2 a l cap sa s sc W) : Box3 w c x1 x2 a l cap sa s sc W.drew := box3_next h (Below.refl _ _).drew
theorem box3_b (h : Box3 w c x1 x2 a l cap sa s sc W) : Below w.heap.size w W := h.1.1.1
theorem box3_flat (h : Hid (Box3 w c x1 x2 a l cap sa s sc W')) : W'.cell? ⟨w.heap.size, 0, none⟩ = some (.int .i64 c.types) ∧ W'.cell? ⟨w.heap.size, 1, none⟩ = some (.slice c.baddr c.blues.length c.bcap) ∧ W'.cell? ⟨w.heap.size, 2, none⟩ = some (.int .i64 c.places) ∧ W'.cell? ⟨w.heap.size, 3, none⟩ = some (.slice c.yaddr c.bays.length c.ycap) ∧ W'.cell? ⟨w.heap.size, 4, none⟩ = some (.int .i64 c.chars) ∧ W'.cell? ⟨w.heap.size, 5, none⟩ = some (.int .i64 c.broker) ∧ W'.cell? ⟨w.heap.size, 6, none⟩ = some (.int .i64 c.least) ∧ W'.cell? ⟨w.heap.size, 7, none⟩ = some (.int .i64 c.sales) ∧ W'.cell? ⟨w.heap.size + 1, 0, none⟩ = some (.int .i64 x1) ∧ W'.cell? ⟨w.heap.size + 1, 1, none⟩ = some (.int .i64 x2) ∧ W'.cell? ⟨w.heap.size + 1 + 1, 0, none⟩ = some (.slice a l.length cap) ∧ W'.cell? ⟨w.heap.size + 1 + 1, 1, none⟩ = some (.slice sa s.length sc) ∧ w.heap.size < W'.heap.size ∧ w.heap.size + 1 < W'.heap.size ∧ w.heap.size + 1 + 1 < W'.heap.size ∧ Hid (Box3 w c x1 x2 a l cap sa s sc W') := by
  obtain ⟨⟨⟨-, h2, c0, c1, c2, c3, c4, c5, c6, c7⟩, h3, c8, c9⟩, h4, e0, e1⟩ := h.out
  exact ⟨c0, c1, c2, c3, c4, c5, c6, c7, c8, c9, e0, e1, h2, h3, h4, h⟩
end
set_option maxRecDepth 100000 in
set_option maxHeartbeats 8000000 in
theorem fitsLaw_any {w : World} (v0 : Value) (c : CatIn) (hc : IsCat w v0 c) (v1 : Value) (x : Int × Int) (hx : IsTwo .i64 v1 x) (v2 : Value) (ls : List Int × List Stk) (hr : IsRest w v2 ls) :
    Calls Try.prog 4 #[v0, v1, v2] w fun e w' => e = .returned (.bool true) ∧ Below w.heap.size w w' := by
  obtain ⟨rfl, h1, h2, h3, h4, h5⟩ := hc
  have HI : CatCame w c := ⟨h1, h2, h3, h4, h5⟩
  obtain ⟨rfl, hx1, hx2⟩ := hx
  obtain ⟨l, s⟩ := ls
  obtain ⟨a, cap, sa, sc, rfl, hlm, hI, hsm, hst, hsw⟩ := hr
  obtain ⟨x1, x2⟩ := x
  dsimp only at *
  have hB0 : Hid (Box3 w c x1 x2 a l cap sa s sc (((w.alloc (.cells c.val 27)).alloc (.cells #[.int .i64 x1, .int .i64 x2] 28)).alloc (.cells #[.slice a l.length cap, .slice sa s.length sc] 42))) := box3_new _ _ _
  have CA : Hid (∀ W, Calls Try.prog 7 #[] W fun e w' => e = .returned (.bool true) ∧ Below W.heap.size W w') := fun W => awake_any W
  have CF : Hid (∀ W, Below w.heap.size w W → Calls Try.prog 6 #[.agg c.val] W fun e w' => ∃ b : Bool, e = .returned (.bool b) ∧ Hid (b = true → Small c) ∧ Below W.heap.size W w') := fun W h => Few_any c W (HI.lies.below h) HI.bl HI.yl HI.nl
  have C1 : Hid (Small c → l.length ≤ 20 → s.length ≤ 20 → ∀ W, Below w.heap.size w W → Calls Try.prog 15 #[.agg c.val, .int .i64 x1, .slice a l.length cap, .int .i64 x2, .slice sa s.length sc] W fun e w' => e = .returned (.bool (fitsV c x1 l x2 s)) ∧ Below W.heap.size W w') := fun hs hl hs2 W h => fits_any c W ((HI.cam hs).below h) x1 a cap l hl (hI.below h) x2 sa sc s hs2 (hst.below h) fun i hi => (hsw i hi).2
  have C2 : Hid (Small c → l.length ≤ 20 → s.length ≤ 20 → ∀ W, Below w.heap.size w W → Calls Try.prog 16 #[.agg c.val, .int .i64 x1, .slice a l.length cap, .int .i64 x2, .slice sa s.length sc] W fun e w' => e = .returned (.bool (fitsV c x1 l x2 s)) ∧ Below W.heap.size W w') := fun hs hl hs2 W h => refFits_any c W ((HI.cam hs).below h) x1 a cap l hl (hI.below h) x2 sa sc s hs2 (hst.below h) fun i hi => (hsw i hi).2
  generalize fitsV c x1 l x2 s = F at *
  clear h1 h2 h3 h4 h5 hI hst hsw
  clear HI
  obtain ⟨W0, hW0⟩ : ∃ W0, Hid (((w.alloc (.cells c.val 27)).alloc (.cells #[.int .i64 x1, .int .i64 x2] 28)).alloc (.cells #[.slice a l.length cap, .slice sa s.length sc] 42) = W0) := ⟨_, rfl⟩
  rw [hW0.out] at hB0
  have HB0 := hB0
  unfold CatIn.val at *
  go_enter Try.func4, Try.ntmps4
  go_upto_region 1 with (fail)
  rw [hW0.out]
  clear hW0
  obtain ⟨d0_0, d0_1, d0_2, d0_3, d0_4, d0_5, d0_6, d0_7, n0_0, n0_1, r0_0, r0_1, l0_0, l0_1, l0_2, -⟩ := box3_flat hB0
  by_cases hlen : (20 : Int) < (l.length : Int)
  · go_wp2_with (first
      | (go_at_call 7; (have tok := HB1; (with_reducible refine (CA.out _).mono ?_); rintro e w20 ⟨rfl, hb20⟩; clear tok; have HZ := Lib.hid (box3_next HB1.out hb20); clear hb20))
      | (go_at_call 6; (have tok := HB0; (with_reducible refine (CF.out _ (box3_b HB0.out)).mono ?_); rintro e w1 ⟨b, rfl, HS, hb1⟩; clear tok; have HB1 := Lib.hid (box3_next HB0.out hb1); obtain ⟨d1_0, d1_1, d1_2, d1_3, d1_4, d1_5, d1_6, d1_7, n1_0, n1_1, r1_0, r1_1, l1_0, l1_1, l1_2, -⟩ := box3_flat HB1; clear HB0 d0_0 d0_1 d0_2 d0_3 d0_4 d0_5 d0_6 d0_7 n0_0 n0_1 r0_0 r0_1 l0_0 l0_1 l0_2; (cases b <;> (try (replace HS := Lib.hid (HS.out rfl)))))))
    all_goals go_ret
    all_goals exact ⟨rfl, box3_b HZ.out⟩
  · by_cases hlen2 : (20 : Int) < (s.length : Int)
    · go_wp2_with (first
        | (go_at_call 7; (have tok := HB1; (with_reducible refine (CA.out _).mono ?_); rintro e w20 ⟨rfl, hb20⟩; clear tok; have HZ := Lib.hid (box3_next HB1.out hb20); clear hb20))
        | (go_at_call 6; (have tok := HB0; (with_reducible refine (CF.out _ (box3_b HB0.out)).mono ?_); rintro e w1 ⟨b, rfl, HS, hb1⟩; clear tok; have HB1 := Lib.hid (box3_next HB0.out hb1); obtain ⟨d1_0, d1_1, d1_2, d1_3, d1_4, d1_5, d1_6, d1_7, n1_0, n1_1, r1_0, r1_1, l1_0, l1_1, l1_2, -⟩ := box3_flat HB1; clear HB0 d0_0 d0_1 d0_2 d0_3 d0_4 d0_5 d0_6 d0_7 n0_0 n0_1 r0_0 r0_1 l0_0 l0_1 l0_2; (cases b <;> (try (replace HS := Lib.hid (HS.out rfl)))))))
      all_goals go_ret
      all_goals exact ⟨rfl, box3_b HZ.out⟩
    · have hl20 : l.length ≤ 20 := by omega
      have hs20 : s.length ≤ 20 := by omega
      go_upto_region 3 with (first
        | (go_at_call 7; (have tok := HB1; (with_reducible refine (CA.out _).mono ?_); rintro e w20 ⟨rfl, hb20⟩; clear tok; have HZ := Lib.hid (box3_next HB1.out hb20); clear hb20))
        | (go_at_call 6; (have tok := HB0; (with_reducible refine (CF.out _ (box3_b HB0.out)).mono ?_); rintro e w1 ⟨b, rfl, HS, hb1⟩; clear tok; have HB1 := Lib.hid (box3_next HB0.out hb1); obtain ⟨d1_0, d1_1, d1_2, d1_3, d1_4, d1_5, d1_6, d1_7, n1_0, n1_1, r1_0, r1_1, l1_0, l1_1, l1_2, -⟩ := box3_flat HB1; clear HB0 d0_0 d0_1 d0_2 d0_3 d0_4 d0_5 d0_6 d0_7 n0_0 n0_1 r0_0 r0_1 l0_0 l0_1 l0_2; (cases b <;> (try (replace HS := Lib.hid (HS.out rfl)))))))
      · go_ret
        exact ⟨rfl, box3_b HZ.out⟩
      · have HB1 := Lib.hid (box3_drew HB1.out)
        clear d1_0 d1_1 d1_2 d1_3 d1_4 d1_5 d1_6 d1_7 n1_0 n1_1 r1_0 r1_1 l1_0 l1_1 l1_2
        go_region_held3 (fun W' => W'.cell? ⟨w.heap.size, 0, none⟩ = some (.int .i64 c.types) ∧ W'.cell? ⟨w.heap.size, 1, none⟩ = some (.slice c.baddr c.blues.length c.bcap) ∧ W'.cell? ⟨w.heap.size, 2, none⟩ = some (.int .i64 c.places) ∧ W'.cell? ⟨w.heap.size, 3, none⟩ = some (.slice c.yaddr c.bays.length c.ycap) ∧ W'.cell? ⟨w.heap.size, 4, none⟩ = some (.int .i64 c.chars) ∧ W'.cell? ⟨w.heap.size, 5, none⟩ = some (.int .i64 c.broker) ∧ W'.cell? ⟨w.heap.size, 6, none⟩ = some (.int .i64 c.least) ∧ W'.cell? ⟨w.heap.size, 7, none⟩ = some (.int .i64 c.sales) ∧ W'.cell? ⟨w.heap.size + 1, 0, none⟩ = some (.int .i64 x1) ∧ W'.cell? ⟨w.heap.size + 1, 1, none⟩ = some (.int .i64 x2) ∧ W'.cell? ⟨w.heap.size + 1 + 1, 0, none⟩ = some (.slice a l.length cap) ∧ W'.cell? ⟨w.heap.size + 1 + 1, 1, none⟩ = some (.slice sa s.length sc) ∧ w.heap.size < W'.heap.size ∧ w.heap.size + 1 < W'.heap.size ∧ w.heap.size + 1 + 1 < W'.heap.size ∧ Hid (Box3 w c x1 x2 a l cap sa s sc W')) (first | exact box3_flat HB4 | exact box3_flat HB3 | exact box3_flat HB2 | exact box3_flat HB1)
          (first
          | (go_at_call 7; (have tok := HB3; (with_reducible refine (CA.out _).mono ?_); rintro e w4 ⟨rfl, hb4⟩; clear tok; have HB4 := Lib.hid (box3_next HB3.out hb4)))
          | (go_at_call 16; (have tok := HB2; (with_reducible refine (C2.out HS.out hl20 hs20 _ (box3_b HB2.out)).mono ?_); rintro e w3 ⟨rfl, hb3⟩; clear tok; have HB3 := Lib.hid (box3_next HB2.out hb3)))
          | (go_at_call 15; (have tok := HB1; (with_reducible refine (C1.out HS.out hl20 hs20 _ (box3_b HB1.out)).mono ?_); rintro e w2 ⟨rfl, hb2⟩; clear tok; have HB2 := Lib.hid (box3_next HB1.out hb2))))
        go_wp2
        go_ret
        exact ⟨rfl, box3_b HB4.out⟩
end Quo
end Go.Proofs.Ytiabnjmblcogmaa
end
