/- The walks of the statements on orders and ways. -/
import Derived.Test.YtjdkkldlghdojaaGraL
import Derived.Deep.DeepMust
namespace Go.Proofs.Ytjdkkldlghdojaa
open Go.RowKit
namespace Gra
open In (Ints IsInts IsPairs PrsK IsTwo)
theorem aw_order1 (a : Option Addr) (w : World) (h : Prs w a [(1, 3), (2, 1)]) : Calls Try.prog 10 #[.int .i64 3, .slice a 2 2] w fun e w' => ∃ b c, e = .returned (.tuple #[.slice b 3 c, .int .i64 0]) ∧ Hid (Ints .i64 w' b [3, 1, 2]) ∧ Hid (Below w.heap.size w w') := by
  refine (Order_any 3 a 2 _ w h).mono ?_
  rw [aw1]
  rintro e w' ⟨b, c, e1, h1, h2⟩
  exact ⟨b, c, e1, h1, h2⟩
theorem aw_order2 (a : Option Addr) (w : World) (h : Prs w a [(1, 2), (2, 1)]) : Calls Try.prog 10 #[.int .i64 2, .slice a 2 2] w fun e w' => ∃ b c, e = .returned (.tuple #[.slice b 0 c, .int .i64 9]) ∧ Hid (Below w.heap.size w w') := by
  refine (Order_any 2 a 2 _ w h).mono ?_
  rw [aw2]
  rintro e w' ⟨b, c, e1, h1, h2⟩
  exact ⟨b, c, e1, h2⟩
theorem aw_deep (a : Option Addr) (w : World) (h : Prs w a [(1, 3), (2, 1)]) : Calls Try.prog 12 #[.int .i64 3, .slice a 2 2] w fun e w' => ∃ b c, e = .returned (.tuple #[.slice b 3 c, .int .i64 0]) ∧ Hid (Ints .i64 w' b [1, 2, 0]) ∧ Hid (Below w.heap.size w w') := by
  refine (Deep_core 3 a 2 _ w h).mono ?_
  rw [aw3]
  rintro e w' ⟨b, c, e1, h1, h2⟩
  exact ⟨b, c, e1, h1, h2⟩
theorem aw_ways (a : Option Addr) (w : World) (h : Prs w a [(2, 1), (2, 3), (1, 3)]) : Calls Try.prog 8 #[.int .i64 3, .slice a 3 3, .int .i64 2, .int .i64 3] w fun e w' => e = .returned (.tuple #[.int .i64 2, .int .i64 0]) ∧ Hid (Below w.heap.size w w') := by
  refine (Ways_any 3 a 3 _ 2 3 w h).mono ?_
  rw [aw4]
  rintro e w' ⟨e1, h1⟩
  exact ⟨e1, h1⟩
theorem aw_same (a b : Option Addr) (c1 c2 : Nat) (x y z : Int) (w : World) (ha : Ints .i64 w a [x, y, z]) (hb : Ints .i64 w b [x, y, z]) : Calls Try.prog 16 #[.slice a 3 c1, .slice b 3 c2] w fun e w' => e = .returned (.bool true) ∧ Hid (Below w.heap.size w w') := by
  refine (same_any a b c1 c2 [x, y, z] [x, y, z] (by simp) (by simp) w ha hb).mono ?_
  rintro e w' ⟨e1, h1⟩
  exact ⟨by rw [e1]; simp, h1⟩
set_option maxRecDepth 100000 in
set_option maxHeartbeats 4000000 in
theorem awake_any (w : World) : Calls Try.prog 7 #[] w fun e w' => e = .returned (.bool true) ∧ Below w.heap.size w w' := by
  have HB0 : Hid (Below w.heap.size w w) := Below.refl _ _
  go_enter Try.func7, Try.ntmps7
  go_wp2_with (first
    | (go_at_call_of 10 (3 : Int); (with_reducible refine (aw_order1 _ _ (prs_two _ _ _ _ _ _)).mono ?_); rintro e w1 ⟨b1, c1, rfl, HI1, h1⟩; have HB1 := Lib.hid (below2 (below_al HB0.out _) h1.out))
    | (go_at_call 10; (with_reducible refine (aw_order1 _ _ (prs_two _ _ _ _ _ _)).mono ?_); rintro e w1 ⟨b1, c1, rfl, HI1, h1⟩; have HB1 := Lib.hid (below2 (below_al HB0.out _) h1.out))
    | (go_at_call 10; (with_reducible refine (aw_order2 _ _ (prs_two _ _ _ _ _ _)).mono ?_); rintro e w2 ⟨b2, c2, rfl, h2⟩; have HB2 := Lib.hid (below2 (below_al HB1.out _) h2.out); replace HI1 := Lib.hid (HI1.out.below ((below_al (Below.refl _ _) _).trans (h2.out.mono (by simp)))))
    | (go_at_call 12; (with_reducible refine (aw_deep _ _ (prs_two _ _ _ _ _ _)).mono ?_); rintro e w3 ⟨b3, c3, rfl, HI3, h3⟩; have HB3 := Lib.hid (below2 (below_al HB2.out _) h3.out); replace HI1 := Lib.hid (HI1.out.below ((below_al (Below.refl _ _) _).trans (h3.out.mono (by simp)))))
    | (go_at_call 8; (with_reducible refine (aw_ways _ _ (prs_three _ _ _ _ _ _ _ _)).mono ?_); rintro e w4 ⟨rfl, h4⟩; have HB4 := Lib.hid (below2 (below_al HB3.out _) h4.out); replace HI1 := Lib.hid (HI1.out.below ((below_al (Below.refl _ _) _).trans (h4.out.mono (by simp)))); replace HI3 := Lib.hid (HI3.out.below ((below_al (Below.refl _ _) _).trans (h4.out.mono (by simp)))))
    | (go_at_call 16; (with_reducible refine (aw_same _ _ _ _ _ _ _ _ (HI1.out.below (below_al (Below.refl _ _) _)) (ints_three _ _ _ _ _)).mono ?_); rintro e w5 ⟨rfl, h5⟩; have HB5 := Lib.hid (below2 (below_al HB4.out _) h5.out); replace HI3 := Lib.hid (HI3.out.below ((below_al (Below.refl _ _) _).trans (h5.out.mono (by simp)))); clear HI1)
    | (go_at_call 16; (with_reducible refine (aw_same _ _ _ _ _ _ _ _ (HI3.out.below (below_al (Below.refl _ _) _)) (ints_three _ _ _ _ _)).mono ?_); rintro e w6 ⟨rfl, h6⟩; have HB6 := Lib.hid (below2 (below_al HB5.out _) h6.out)))
  go_ret
  exact ⟨rfl, HB6.out⟩
theorem deepRes_len (n : Int) (l : List (Int × Int)) : (deepRes n l).1.length ≤ 4096 := by
  unfold deepRes
  split
  · split
    · simp
    · have h : (deepF n.toNat l).length = n.toNat := by unfold deepF; rw [dpA_len, List.length_replicate]
      have := (‹Good n l›).2.1
      show (deepF n.toNat l).length ≤ 4096
      omega
  · simp
theorem ordRes_len (n : Int) (l : List (Int × Int)) : (ordRes n l).1.length ≤ 4096 := by
  unfold ordRes
  split
  · split
    · simp
    · have h := (ordG_ok n.toNat l n.toNat).len
      have := (‹Good n l›).2.1
      show (ord n.toNat l).length ≤ 4096
      unfold ord
      omega
  · simp
theorem belRes_len (n : Int) (l : List (Int × Int)) (nd : Int) : (belRes n l nd).1.length ≤ 4096 := by
  unfold belRes
  split
  · have h := belTo_len l nd n.toNat
    have := (‹Good n l ∧ 1 ≤ nd ∧ nd ≤ n›).1.2.1
    show (belTo l nd n.toNat).length ≤ 4096
    omega
  · simp
/-- Two lists that are one. -/
theorem same_one {L : List Int} (hL : L.length ≤ 4096) (a b : Option Addr) (c1 c2 : Nat) (w : World) (ha : Ints .i64 w a L) (hb : Ints .i64 w b L) :
    Calls Try.prog 16 #[.slice a L.length c1, .slice b L.length c2] w fun e w' => e = .returned (.bool true) ∧ Hid (Below w.heap.size w w') := by
  refine (same_any a b c1 c2 L L hL hL w ha hb).mono ?_
  rintro e w' ⟨e1, h1⟩
  exact ⟨by rw [e1]; simp, h1⟩
set_option maxRecDepth 100000 in
set_option maxHeartbeats 4000000 in
theorem orders_walk {w : World} (n : Int) (_hn : (Lit.int .i64 n).wf = true) (v : Value) (l : List (Int × Int)) (hv : IsPairs .i64 w v l) (nd : Int) (_hd : (Lit.int .i64 nd).wf = true) :
    Calls Try.prog 5 #[.int .i64 n, v, .int .i64 nd] w fun e w' => e = .returned (.bool true) ∧ Below w.heap.size w w' := by
  obtain ⟨a, cap, rfl, _, hp, _⟩ := hv
  have HP : Hid (Prs w a l) := hp
  have AW := Lib.hid awake_any
  clear hp
  by_cases h60 : (60 : Int) < (l.length : Int)
  · have d0 : decide ((60 : Int) < (l.length : Int)) = true := decide_eq_true h60
    clear h60
    go_enter Try.func5, Try.ntmps5
    go_wp2_with (go_at_call 7; ((with_reducible refine (AW.out _).mono ?_); rintro e w1 ⟨rfl, hb1⟩; have HB1 := Lib.hid hb1; clear hb1))
    go_ret
    exact ⟨rfl, HB1.out⟩
  · have d0 : decide ((60 : Int) < (l.length : Int)) = false := decide_eq_false h60
    have HB0 : Hid (Below w.heap.size w w) := Below.refl _ _
    have C1 : Hid (∀ w1, Below w.heap.size w w1 → _) := fun w1 hb => Order_any n a cap l w1 (HP.out.below hb)
    have C2 : Hid (∀ w1, Below w.heap.size w w1 → _) := fun w1 hb => refOrder_core n a cap l w1 (HP.out.below hb)
    have C3 : Hid (∀ w1, Below w.heap.size w w1 → _) := fun w1 hb => Deep_core n a cap l w1 (HP.out.below hb)
    have C4 : Hid (∀ w1, Below w.heap.size w w1 → _) := fun w1 hb => refDeep_core n a cap l w1 (HP.out.below hb)
    have C5 : Hid (∀ w1, Below w.heap.size w w1 → _) := fun w1 hb => Below_core n a cap l nd w1 (HP.out.below hb)
    have C6 : Hid (∀ w1, Below w.heap.size w w1 → _) := fun w1 hb => refBelow_core n a cap l nd w1 (HP.out.below hb)
    have L1 := ordRes_len n l
    have L2 := deepRes_len n l
    have L3 := belRes_len n l nd
    generalize ordRes n l = r1 at *
    generalize deepRes n l = r2 at *
    generalize belRes n l nd = r3 at *
    obtain ⟨r1, q1⟩ := r1
    obtain ⟨r2, q2⟩ := r2
    obtain ⟨r3, q3⟩ := r3
    replace L1 := Lib.hid L1
    replace L2 := Lib.hid L2
    replace L3 := Lib.hid L3
    clear h60
    go_enter Try.func5, Try.ntmps5
    go_wp2_with (first
      | (go_at_call 10; (with_reducible refine (C1.out _ HB0.out).mono ?_); rintro e w1 ⟨a1, c1, rfl, i1, h1⟩; have HB1 := Lib.hid (below2 HB0.out h1); have I1 := Lib.hid i1; clear h1 i1)
      | (go_at_call 11; (with_reducible refine (C2.out _ HB1.out).mono ?_); rintro e w2 ⟨a2, c2, rfl, i2, h2⟩; have HB2 := Lib.hid (below2 HB1.out h2); replace I1 := Lib.hid (I1.out.below h2); have I2 := Lib.hid i2; clear h2 i2)
      | (go_at_call 12; (with_reducible refine (C3.out _ HB2.out).mono ?_); rintro e w3 ⟨a3, c3, rfl, i3, h3⟩; have HB3 := Lib.hid (below2 HB2.out h3); replace I1 := Lib.hid (I1.out.below h3); replace I2 := Lib.hid (I2.out.below h3); have I3 := Lib.hid i3; clear h3 i3)
      | (go_at_call 13; (with_reducible refine (C4.out _ HB3.out).mono ?_); rintro e w4 ⟨a4, c4, rfl, i4, h4⟩; have HB4 := Lib.hid (below2 HB3.out h4); replace I1 := Lib.hid (I1.out.below h4); replace I2 := Lib.hid (I2.out.below h4); replace I3 := Lib.hid (I3.out.below h4); have I4 := Lib.hid i4; clear h4 i4)
      | (go_at_call 14; (with_reducible refine (C5.out _ HB4.out).mono ?_); rintro e w5 ⟨a5, c5, rfl, i5, h5⟩; have HB5 := Lib.hid (below2 HB4.out h5); replace I1 := Lib.hid (I1.out.below h5); replace I2 := Lib.hid (I2.out.below h5); replace I3 := Lib.hid (I3.out.below h5); replace I4 := Lib.hid (I4.out.below h5); have I5 := Lib.hid i5; clear h5 i5)
      | (go_at_call 15; (with_reducible refine (C6.out _ HB5.out).mono ?_); rintro e w6 ⟨a6, c6, rfl, i6, h6⟩; have HB6 := Lib.hid (below2 HB5.out h6); replace I1 := Lib.hid (I1.out.below h6); replace I2 := Lib.hid (I2.out.below h6); replace I3 := Lib.hid (I3.out.below h6); replace I4 := Lib.hid (I4.out.below h6); replace I5 := Lib.hid (I5.out.below h6); have I6 := Lib.hid i6; clear h6 i6)
      | (go_at_call 16; (with_reducible refine (same_one L1.out _ _ _ _ _ I1.out I2.out).mono ?_); rintro e w7 ⟨rfl, h7⟩; have HB7 := Lib.hid (below2 HB6.out h7.out); replace I3 := Lib.hid (I3.out.below h7.out); replace I4 := Lib.hid (I4.out.below h7.out); replace I5 := Lib.hid (I5.out.below h7.out); replace I6 := Lib.hid (I6.out.below h7.out); clear h7 I1 I2)
      | (go_at_call 16; (with_reducible refine (same_one L2.out _ _ _ _ _ I3.out I4.out).mono ?_); rintro e w8 ⟨rfl, h8⟩; have HB8 := Lib.hid (below2 HB7.out h8.out); replace I5 := Lib.hid (I5.out.below h8.out); replace I6 := Lib.hid (I6.out.below h8.out); clear h8 I3 I4)
      | (go_at_call 16; (with_reducible refine (same_one L3.out _ _ _ _ _ I5.out I6.out).mono ?_); rintro e w9 ⟨rfl, h9⟩; have HB9 := Lib.hid (below2 HB8.out h9.out); clear h9 I5 I6)
      | (go_at_call 7; ((with_reducible refine (AW.out _).mono ?_); rintro e w10 ⟨rfl, hb10⟩; have HB10 := Lib.hid (below2 HB9.out hb10); clear hb10)))
    go_ret
    exact ⟨rfl, HB10.out⟩
set_option maxRecDepth 100000 in
set_option maxHeartbeats 4000000 in
theorem ways_walk {w : World} (n : Int) (_hn : (Lit.int .i64 n).wf = true) (v : Value) (l : List (Int × Int)) (hv : IsPairs .i64 w v l) (u : Value) (ft : Int × Int) (hu : IsTwo .i64 u ft) :
    Calls Try.prog 3 #[.int .i64 n, v, u] w fun e w' => e = .returned (.bool true) ∧ Below w.heap.size w w' := by
  obtain ⟨a, cap, rfl, _, hp, _⟩ := hv
  obtain ⟨f, z⟩ := ft
  obtain ⟨rfl, _, _⟩ := hu
  have HP : Hid (Prs w a l) := hp
  have AW := Lib.hid awake_any
  clear hp
  have HB0 : Hid (Below w.heap.size w (w.alloc (.cells #[.int .i64 f, .int .i64 z] 23))) := (Below.refl _ _).alloc (Nat.le_refl _) _
  have k0 : (w.alloc (.cells #[.int .i64 f, .int .i64 z] 23)).cell? ⟨w.heap.size, 0, none⟩ = some (.int .i64 f) := by simp
  have k1 : (w.alloc (.cells #[.int .i64 f, .int .i64 z] 23)).cell? ⟨w.heap.size, 1, none⟩ = some (.int .i64 z) := by simp
  have kl : w.heap.size < (w.alloc (.cells #[.int .i64 f, .int .i64 z] 23)).heap.size := by simp
  by_cases h60 : (60 : Int) < (l.length : Int)
  · have d0 : decide ((60 : Int) < (l.length : Int)) = true := decide_eq_true h60
    clear h60
    go_enter Try.func3, Try.ntmps3
    go_wp2_with (go_at_call 7; ((with_reducible refine (AW.out _).mono ?_); rintro e w1 ⟨rfl, hb1⟩; have HB1 := Lib.hid (below2 HB0.out hb1); clear hb1))
    go_ret
    exact ⟨rfl, HB1.out⟩
  · have d0 : decide ((60 : Int) < (l.length : Int)) = false := decide_eq_false h60
    have C1 : Hid (∀ w1, Below w.heap.size w w1 → _) := fun w1 hb => Ways_any n a cap l f z w1 (HP.out.below hb)
    have C2 : Hid (∀ w1, Below w.heap.size w w1 → _) := fun w1 hb => refWays_any n a cap l f z w1 (HP.out.below hb)
    generalize waysRes n l f z = r1 at *
    obtain ⟨r1, q1⟩ := r1
    clear h60
    go_enter Try.func3, Try.ntmps3
    go_wp2_with (first
      | (go_at_call 8; (with_reducible refine (C1.out _ HB0.out).mono ?_); rintro e w1 ⟨rfl, h1⟩; have HB1 := Lib.hid (below2 HB0.out h1); have k01 := (h1.cell (p := ⟨w.heap.size, 0, none⟩) kl).trans k0; have k11 := (h1.cell (p := ⟨w.heap.size, 1, none⟩) kl).trans k1; clear h1)
      | (go_at_call 9; (with_reducible refine (C2.out _ HB1.out).mono ?_); rintro e w2 ⟨rfl, h2⟩; have HB2 := Lib.hid (below2 HB1.out h2); clear h2)
      | (go_at_call 7; ((with_reducible refine (AW.out _).mono ?_); rintro e w10 ⟨rfl, hb10⟩; have HB10 := Lib.hid (below2 HB2.out hb10); clear hb10)))
    go_ret
    exact ⟨rfl, HB10.out⟩
end Gra
end Go.Proofs.Ytjdkkldlghdojaa
