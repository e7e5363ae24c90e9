/- The walks of RoleAllows and RoleGrows. -/
import Derived.Test.YtfmcggejifnhfaaDoorRolA
import Derived.OpenShut
namespace Go.Proofs.YtfmcggejifnhfaaDoor
open Go.RowKit Go.ChangeAt Go.WideShapes Go.WideElems Go.ChangeShapes
namespace Rol
set_option maxHeartbeats 4000000 in
theorem allows_walk (a : Int) (b : Int) (m : Int) (w : World) (hm : w.cell? ⟨0, 0, none⟩ = some (.int .i64 m)) :
    Calls Tryd.prog 5 #[.int .i64 a, .int .i64 b] w fun e w' => e = .returned (.bool true) ∧ Below w.heap.size w w' := by
  have C1 : Hid (∀ W, Calls Tryd.prog 11 #[.int .i64 a, .int .i64 b] W fun e w' => e = .returned (.tuple #[.int .i64 (bothV a b).1, .int .i64 (bothV a b).2]) ∧ W = w') := both_any a b
  have C2 : Hid (∀ W, Calls Tryd.prog 13 #[.int .i64 a, .int .i64 b] W fun e w' => e = .returned (.tuple #[.int .i64 (bothV a b).1, .int .i64 (bothV a b).2]) ∧ W = w') := refBoth_any a b
  have C3 : Hid (∀ W, Calls Tryd.prog 14 #[.int .i64 a] W fun e w' => e = .returned (.tuple #[.int .i64 (takeV a).1, .int .i64 (takeV a).2]) ∧ W = w') := take_any a
  have C4 : Hid (∀ W, Calls Tryd.prog 15 #[.int .i64 a] W fun e w' => e = .returned (.tuple #[.int .i64 (takeV a).1, .int .i64 (takeV a).2]) ∧ W = w') := refTake_any a
  have C5 : Hid (∀ W, Calls Tryd.prog 12 #[.int .i64 a, .int .i64 b] W fun e w' => e = .returned (.bool (hasP a b)) ∧ W = w') := has_any a b
  have C6 : Hid (∀ W, Calls Tryd.prog 16 #[.int .i64 a, .int .i64 b] W fun e w' => e = .returned (.bool (hasP a b)) ∧ W = w') := refHas_any a b
  have C7 : Hid (∀ W, Calls Tryd.prog 17 #[.int .i64 a] W fun e w' => e = .returned (.int .i64 (if isP a then 0 else 1)) ∧ W = w') := check_any a
  have C8 : Hid (∀ W, Calls Tryd.prog 18 #[.int .i64 a] W fun e w' => e = .returned (.bool (isP a)) ∧ W = w') := may_any a
  have HM := Lib.hid hm
  clear hm
  generalize (bothV a b).1 = B1 at *
  generalize (bothV a b).2 = B2 at *
  generalize (takeV a).1 = T1 at *
  generalize (takeV a).2 = T2 at *
  generalize hasP a b = X at *
  generalize isP a = Y at *
  cases Y
  · replace C7 : Hid (∀ W, Calls Tryd.prog 17 #[.int .i64 a] W fun e w' => e = .returned (.int .i64 1) ∧ W = w') := C7.out
    go_enter Tryd.func5, Tryd.ntmps5
    go_wp2_with (first
      | (go_at_call 11; ((with_reducible refine (C1.out _).mono ?_); rintro e w1 ⟨rfl, rfl⟩))
      | (go_at_call 13; ((with_reducible refine (C2.out _).mono ?_); rintro e w1 ⟨rfl, rfl⟩))
      | (go_at_call 14; ((with_reducible refine (C3.out _).mono ?_); rintro e w1 ⟨rfl, rfl⟩))
      | (go_at_call 15; ((with_reducible refine (C4.out _).mono ?_); rintro e w1 ⟨rfl, rfl⟩))
      | (go_at_call 12; ((with_reducible refine (C5.out _).mono ?_); rintro e w1 ⟨rfl, rfl⟩))
      | (go_at_call 16; ((with_reducible refine (C6.out _).mono ?_); rintro e w1 ⟨rfl, rfl⟩))
      | (go_at_call 17; ((with_reducible refine (C7.out _).mono ?_); rintro e w1 ⟨rfl, rfl⟩))
      | (go_at_call 18; ((with_reducible refine (C8.out _).mono ?_); rintro e w1 ⟨rfl, rfl⟩))
      | (go_at_call 6; ((with_reducible refine (awake_any m _ HM.out).mono ?_); rintro e w9 ⟨rfl, hb9⟩)))
    go_ret
    exact ⟨rfl, hb9⟩
  · replace C7 : Hid (∀ W, Calls Tryd.prog 17 #[.int .i64 a] W fun e w' => e = .returned (.int .i64 0) ∧ W = w') := C7.out
    go_enter Tryd.func5, Tryd.ntmps5
    go_wp2_with (first
      | (go_at_call 11; ((with_reducible refine (C1.out _).mono ?_); rintro e w1 ⟨rfl, rfl⟩))
      | (go_at_call 13; ((with_reducible refine (C2.out _).mono ?_); rintro e w1 ⟨rfl, rfl⟩))
      | (go_at_call 14; ((with_reducible refine (C3.out _).mono ?_); rintro e w1 ⟨rfl, rfl⟩))
      | (go_at_call 15; ((with_reducible refine (C4.out _).mono ?_); rintro e w1 ⟨rfl, rfl⟩))
      | (go_at_call 12; ((with_reducible refine (C5.out _).mono ?_); rintro e w1 ⟨rfl, rfl⟩))
      | (go_at_call 16; ((with_reducible refine (C6.out _).mono ?_); rintro e w1 ⟨rfl, rfl⟩))
      | (go_at_call 17; ((with_reducible refine (C7.out _).mono ?_); rintro e w1 ⟨rfl, rfl⟩))
      | (go_at_call 18; ((with_reducible refine (C8.out _).mono ?_); rintro e w1 ⟨rfl, rfl⟩))
      | (go_at_call 6; ((with_reducible refine (awake_any m _ HM.out).mono ?_); rintro e w9 ⟨rfl, hb9⟩)))
    go_ret
    exact ⟨rfl, hb9⟩
theorem sub_refl (m : Nat) : sub m m = true := (sub_iff m m).2 fun _ _ h => h
theorem sub_zero (m : Nat) : sub 0 m = true := (sub_iff 0 m).2 fun k _ h => by rw [Nat.zero_testBit] at h; cases h
theorem hasN_or (x y z : Nat) (h : hasN x z = true) : hasN (x ||| y) z = true := by
  unfold hasN at h ⊢
  rw [Bool.or_eq_true, sub_iff] at h ⊢
  rcases h with h | h
  · exact .inl (by rw [Nat.testBit_or, h]; rfl)
  · exact .inr fun k hk hz => by rw [Nat.testBit_or, h k hk hz]; rfl
theorem hasN_both (x y z : Nat) (_hx : x < 256) : hasN x (bothN x y) = true ∧ hasN y (bothN x y) = true ∧ (hasN x z = true → hasN y z = hasN (bothN x y) z) ∧ (hasN x z = false → hasN (bothN x y) z = false) := by
  unfold hasN bothN
  cases h1 : x.testBit 0
  · cases h2 : y.testBit 0
    · simp only [Bool.false_eq_true, if_false, Bool.false_or]
      have e0 : (x &&& y).testBit 0 = false := by rw [Nat.testBit_and, h1]; rfl
      rw [e0, Bool.false_or]
      have hs : sub z (x &&& y) = true ↔ sub z x = true ∧ sub z y = true := by
        rw [sub_iff, sub_iff, sub_iff]
        constructor
        · intro h
          refine ⟨fun k hk hz => ?_, fun k hk hz => ?_⟩
          · have := h k hk hz; rw [Nat.testBit_and, Bool.and_eq_true] at this; exact this.1
          · have := h k hk hz; rw [Nat.testBit_and, Bool.and_eq_true] at this; exact this.2
        · rintro ⟨ha, hb⟩ k hk hz
          rw [Nat.testBit_and, ha k hk hz, hb k hk hz]; rfl
      refine ⟨(sub_iff _ _).2 fun k _ h => ?_, (sub_iff _ _).2 fun k _ h => ?_, fun h => ?_, fun h => ?_⟩
      · rw [Nat.testBit_and, Bool.and_eq_true] at h; exact h.1
      · rw [Nat.testBit_and, Bool.and_eq_true] at h; exact h.2
      · rw [Bool.eq_iff_iff, hs]; simp [h]
      · rw [Bool.eq_false_iff]; intro hc; rw [(hs.1 hc).1] at h; cases h
    · simp [sub_refl, h1]
  · cases h2 : y.testBit 0
    · simp [sub_refl, h2]
    · simp [show Nat.testBit 255 0 = true from rfl]
theorem both_lt (x y : Nat) (hx : x < 256) (hy : y < 256) : bothN x y < 256 := by
  unfold bothN
  split
  · split
    · decide
    · exact hy
  · split
    · exact hx
    · exact Nat.lt_of_le_of_lt Nat.and_le_left hx
theorem has_nat (x y : Nat) (hx : x < 256) (hy : y < 256) (w : World) : Calls Tryd.prog 12 #[.int .i64 (x : Int), .int .i64 (y : Int)] w fun e w' => e = .returned (.bool (hasN x y)) ∧ w = w' :=
  (has_any x y w).mono fun e w' ⟨h1, h2⟩ => ⟨by rw [h1]; unfold hasP; rw [isP_nat x hx, isP_nat y hy, Int.toNat_natCast, Int.toNat_natCast]; rfl, h2⟩
set_option maxHeartbeats 4000000 in
theorem grows_core (x y z : Nat) (hx : x < 256) (hy : y < 256) (hz : z < 256) (m : Int) (w : World) (hm : w.cell? ⟨0, 0, none⟩ = some (.int .i64 m)) :
    Calls Tryd.prog 4 #[.int .u8 (x : Int), .int .u8 (y : Int), .int .u8 (z : Int)] w fun e w' => e = .returned (.bool true) ∧ Below w.heap.size w w' := by
  have HM := Lib.hid hm
  have hn := both_lt x y hx hy
  have hxy : x ||| y < 256 := Nat.or_lt_two_pow (n := 8) hx hy
  have C1 : Hid (∀ W, Calls Tryd.prog 11 #[.int .i64 (x : Int), .int .i64 (y : Int)] W fun e w' => e = .returned (.tuple #[.int .i64 ((bothN x y : Nat) : Int), .int .i64 0]) ∧ W = w') := fun W => (both_any x y W).mono fun e w' ⟨h1, h2⟩ => ⟨by rw [h1]; unfold bothV; rw [isP_nat x hx, isP_nat y hy, Int.toNat_natCast, Int.toNat_natCast]; rfl, h2⟩
  have H1 : Hid (∀ W, Calls Tryd.prog 12 #[.int .i64 (x : Int), .int .i64 (z : Int)] W fun e w' => e = .returned (.bool (hasN x z)) ∧ W = w') := has_nat x z hx hz
  have H2 : Hid (∀ W, Calls Tryd.prog 12 #[.int .i64 ((x ||| y : Nat) : Int), .int .i64 (z : Int)] W fun e w' => e = .returned (.bool (hasN (x ||| y) z)) ∧ W = w') := has_nat _ z hxy hz
  have H3 : Hid (∀ W, Calls Tryd.prog 12 #[.int .i64 (x : Int), .int .i64 0] W fun e w' => e = .returned (.bool true) ∧ W = w') := fun W => (has_nat x 0 hx (by omega) W).mono fun e w' ⟨h1, h2⟩ => ⟨by rw [h1]; unfold hasN; rw [sub_zero]; simp, h2⟩
  have H4 : Hid (∀ W, Calls Tryd.prog 12 #[.int .i64 (x : Int), .int .i64 (x : Int)] W fun e w' => e = .returned (.bool true) ∧ W = w') := fun W => (has_nat x x hx hx W).mono fun e w' ⟨h1, h2⟩ => ⟨by rw [h1]; unfold hasN; rw [sub_refl]; simp, h2⟩
  have F := hasN_both x y z hx
  have H5 : Hid (∀ W, Calls Tryd.prog 12 #[.int .i64 (x : Int), .int .i64 ((bothN x y : Nat) : Int)] W fun e w' => e = .returned (.bool true) ∧ W = w') := fun W => (has_nat x _ hx hn W).mono fun e w' ⟨h1, h2⟩ => ⟨by rw [h1, F.1], h2⟩
  have H6 : Hid (∀ W, Calls Tryd.prog 12 #[.int .i64 (y : Int), .int .i64 ((bothN x y : Nat) : Int)] W fun e w' => e = .returned (.bool true) ∧ W = w') := fun W => (has_nat y _ hy hn W).mono fun e w' ⟨h1, h2⟩ => ⟨by rw [h1, F.2.1], h2⟩
  have H7 : Hid (∀ W, Calls Tryd.prog 12 #[.int .i64 (y : Int), .int .i64 (z : Int)] W fun e w' => e = .returned (.bool (hasN y z)) ∧ W = w') := has_nat y z hy hz
  have H8 : Hid (∀ W, Calls Tryd.prog 12 #[.int .i64 ((bothN x y : Nat) : Int), .int .i64 (z : Int)] W fun e w' => e = .returned (.bool (hasN (bothN x y) z)) ∧ W = w') := has_nat _ z hn hz
  have F1 := hasN_or x y z
  have hor := or_nat x y hx hy
  have wx : wrap64 (x : Int) = x := by unfold wrap64; omega
  have wy : wrap64 (y : Int) = y := by unfold wrap64; omega
  have wz : wrap64 (z : Int) = z := by unfold wrap64; omega
  replace F := Lib.hid F.2.2
  replace F1 := Lib.hid F1
  clear hm hn hxy hx hy hz
  generalize hasN x z = A at *
  generalize hasN y z = B at *
  generalize hasN (bothN x y) z = C at *
  generalize hasN (x ||| y) z = D at *
  generalize ((bothN x y : Nat) : Int) = N at *
  generalize ((x ||| y : Nat) : Int) = O at *
  cases A
  · have hC : Hid (C = false) := F.out.2 rfl
    obtain rfl := hC.out
    go_enter Tryd.func4, Tryd.ntmps4
    go_wp2_with (first
      | (go_at_call 11; ((with_reducible refine (C1.out _).mono ?_); rintro e w1 ⟨rfl, rfl⟩))
      | (go_at_call 12; ((first | (with_reducible refine (H1.out _).mono ?_) | (with_reducible refine (H2.out _).mono ?_) | (with_reducible refine (H3.out _).mono ?_) | (with_reducible refine (H4.out _).mono ?_) | (with_reducible refine (H5.out _).mono ?_) | (with_reducible refine (H6.out _).mono ?_) | (with_reducible refine (H7.out _).mono ?_) | (with_reducible refine (H8.out _).mono ?_)); rintro e w1 ⟨rfl, rfl⟩))
      | (go_at_call 6; ((with_reducible refine (awake_any m _ HM.out).mono ?_); rintro e w9 ⟨rfl, hb9⟩)))
    go_ret
    exact ⟨rfl, hb9⟩
  · have hD : Hid (D = true) := F1.out rfl
    have hC : Hid (B = C) := F.out.1 rfl
    obtain rfl := hD.out
    obtain rfl := hC.out
    cases B
    · go_enter Tryd.func4, Tryd.ntmps4
      go_wp2_with (first
        | (go_at_call 11; ((with_reducible refine (C1.out _).mono ?_); rintro e w1 ⟨rfl, rfl⟩))
        | (go_at_call 12; ((first | (with_reducible refine (H1.out _).mono ?_) | (with_reducible refine (H2.out _).mono ?_) | (with_reducible refine (H3.out _).mono ?_) | (with_reducible refine (H4.out _).mono ?_) | (with_reducible refine (H5.out _).mono ?_) | (with_reducible refine (H6.out _).mono ?_) | (with_reducible refine (H7.out _).mono ?_) | (with_reducible refine (H8.out _).mono ?_)); rintro e w1 ⟨rfl, rfl⟩))
        | (go_at_call 6; ((with_reducible refine (awake_any m _ HM.out).mono ?_); rintro e w9 ⟨rfl, hb9⟩)))
      go_ret
      exact ⟨rfl, hb9⟩
    · go_enter Tryd.func4, Tryd.ntmps4
      go_wp2_with (first
        | (go_at_call 11; ((with_reducible refine (C1.out _).mono ?_); rintro e w1 ⟨rfl, rfl⟩))
        | (go_at_call 12; ((first | (with_reducible refine (H1.out _).mono ?_) | (with_reducible refine (H2.out _).mono ?_) | (with_reducible refine (H3.out _).mono ?_) | (with_reducible refine (H4.out _).mono ?_) | (with_reducible refine (H5.out _).mono ?_) | (with_reducible refine (H6.out _).mono ?_) | (with_reducible refine (H7.out _).mono ?_) | (with_reducible refine (H8.out _).mono ?_)); rintro e w1 ⟨rfl, rfl⟩))
        | (go_at_call 6; ((with_reducible refine (awake_any m _ HM.out).mono ?_); rintro e w9 ⟨rfl, hb9⟩)))
      go_ret
      exact ⟨rfl, hb9⟩
theorem allows_walk2 (a : Int) (_ha : (Lit.int .i64 a).wf = true) (b : Int) (_hb : (Lit.int .i64 b).wf = true) (m : Int) (w : World) (hm : w.cell? ⟨0, 0, none⟩ = some (.int .i64 m)) :
    Calls Tryd.prog 5 #[.int .i64 a, .int .i64 b] w fun e w' => e = .returned (.bool true) ∧ Below w.heap.size w w' := allows_walk a b m w hm
theorem grows_walk (a : Int) (ha : (Lit.int .u8 a).wf = true) (b : Int) (hb : (Lit.int .u8 b).wf = true) (c : Int) (hc : (Lit.int .u8 c).wf = true) (m : Int) (w : World) (hm : w.cell? ⟨0, 0, none⟩ = some (.int .i64 m)) :
    Calls Tryd.prog 4 #[.int .u8 a, .int .u8 b, .int .u8 c] w fun e w' => e = .returned (.bool true) ∧ Below w.heap.size w w' := by
  have ba := bounds_u8 ha
  have bb := bounds_u8 hb
  have bc := bounds_u8 hc
  obtain ⟨x, rfl⟩ := Int.eq_ofNat_of_zero_le ba.1
  obtain ⟨y, rfl⟩ := Int.eq_ofNat_of_zero_le bb.1
  obtain ⟨z, rfl⟩ := Int.eq_ofNat_of_zero_le bc.1
  exact grows_core x y z (by omega) (by omega) (by omega) m w hm
end Rol
end Go.Proofs.YtfmcggejifnhfaaDoor
