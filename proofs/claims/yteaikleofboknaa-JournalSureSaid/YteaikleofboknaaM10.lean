/- Texts put together: JrD, JrE, JrF. -/
import Derived.Test.YteaikleofboknaaM09
import Derived.Test.YteaikleofboknaaM02
set_option linter.all false
section
set_option maxRecDepth 100000
namespace Go.Proofs.Yteaikleofboknaa
open Go.RowKit Go.Great Go.Maps
namespace Jrn
open Frm (fits num put scan strs rows allS allE oks ok cats)
open In (strVals Strs)
open Dsk
theorem bx_cell {g m : Nat} {a b : World} (h : Bx g m a b) {x i : Nat} (hx : x < a.heap.size) (hg : x ≠ g) (hm : x ≠ m) : b.cell? ⟨x, i, none⟩ = a.cell? ⟨x, i, none⟩ := by
  unfold World.cell?
  rw [h.block x hx hg hm]
/-- The first result that is none of 0, or the last. -/
def pickF (R : Nat → Int × DkIn) (N : Nat) : Nat → Int × DkIn
  | 0 => R N
  | f + 1 => if (R (N - (f + 1) + 1)).1 = 0 then pickF R N f else R (N - (f + 1) + 1)
def pickR (R : Nat → Int × DkIn) (N : Nat) : Int × DkIn := pickF R N N
theorem pickF_at (R : Nat → Int × DkIn) (N j : Nat) (h2 : j ≤ N) (hz : (R j).1 ≠ 0) : ∀ f, f ≤ N → N - f < j → (∀ i, N - f < i → i < j → (R i).1 = 0) → pickF R N f = R j
  | 0, _, h, _ => by omega
  | f + 1, hf, h, hi => by
    unfold pickF
    by_cases e : N - (f + 1) + 1 = j
    · rw [e, if_neg hz]
    · rw [if_pos (hi _ (by omega) (by omega))]
      exact pickF_at R N j h2 hz f (by omega) (by omega) fun i h3 h4 => hi i (by omega) h4
theorem pick_at (R : Nat → Int × DkIn) {N j : Nat} (h1 : 1 ≤ j) (h2 : j ≤ N) (hz : (R j).1 ≠ 0) (hi : ∀ i, 1 ≤ i → i < j → (R i).1 = 0) : pickR R N = R j :=
  pickF_at R N j h2 hz N (Nat.le_refl _) (by omega) fun i h3 h4 => hi i (by omega) h4
theorem pickF_end (R : Nat → Int × DkIn) (N : Nat) : ∀ f, f ≤ N → (∀ i, N - f < i → i < N → (R i).1 = 0) → pickF R N f = R N
  | 0, _, _ => rfl
  | f + 1, hf, hi => by
    unfold pickF
    by_cases e : N - (f + 1) + 1 = N
    · rw [e]
      split
      · exact pickF_end R N f (by omega) fun i h3 h4 => hi i (by omega) h4
      · rfl
    · rw [if_pos (hi _ (by omega) (by omega))]
      exact pickF_end R N f (by omega) fun i h3 h4 => hi i (by omega) h4
theorem pick_end (R : Nat → Int × DkIn) {N : Nat} (h1 : 1 ≤ N) (hi : ∀ i, 1 ≤ i → i < N → (R i).1 = 0) : pickR R N = R N :=
  pickF_end R N N (Nat.le_refl _) fun i h3 h4 => hi i (by omega) h4
set_option maxHeartbeats 4000000 in
theorem steps_begins (w0 : World) (g m x a b : Nat) (R : Nat → Int × DkIn) (hx : x < w0.heap.size) (hxg : x ≠ g) (hxm : x ≠ m) (hc0 : w0.cell? ⟨x, 0, none⟩ = some (.func (.func 53) #[] #[.pointer (some ⟨a, 0, none⟩)])) (hc1 : w0.cell? ⟨x, 1, none⟩ = some (.func (.func 55) #[] #[.pointer (some ⟨a, 0, none⟩), .pointer (some ⟨b, 0, none⟩)])) (hc2 : w0.cell? ⟨x, 2, none⟩ = some (.func (.func 56) #[] #[.pointer (some ⟨a, 0, none⟩)]))
    (C0 : ∀ W, PD W g m (R 0).2.files.length (R 0).2 → Bx g m w0 W → Calls Try.prog 53 #[.pointer (some ⟨a, 0, none⟩)] W fun e w' => e = .returned (.int .i64 (R 1).1) ∧ Hid (PD w' g m (R 1).2.files.length (R 1).2) ∧ Hid (Bx g m W w'))
    (C1 : ∀ W, PD W g m (R 1).2.files.length (R 1).2 → Bx g m w0 W → Calls Try.prog 55 #[.pointer (some ⟨a, 0, none⟩), .pointer (some ⟨b, 0, none⟩)] W fun e w' => e = .returned (.int .i64 (R 2).1) ∧ Hid (PD w' g m (R 2).2.files.length (R 2).2) ∧ Hid (Bx g m W w'))
    (C2 : ∀ W, PD W g m (R 2).2.files.length (R 2).2 → Bx g m w0 W → Calls Try.prog 56 #[.pointer (some ⟨a, 0, none⟩)] W fun e w' => e = .returned (.int .i64 (R 3).1) ∧ Hid (PD w' g m (R 3).2.files.length (R 3).2) ∧ Hid (Bx g m W w'))
    (h0 : PD w0 g m (R 0).2.files.length (R 0).2) :
    Calls Try.prog 30 #[.slice (some ⟨x, 0, none⟩) 3 3] w0 fun e w' => e = .returned (.int .i64 (pickR R 3).1) ∧ Hid (PD w' g m (pickR R 3).2.files.length (pickR R 3).2) ∧ Hid (Bx g m w0 w') := by
  have K0 := Lib.hid C0
  have K1 := Lib.hid C1
  have K2 := Lib.hid C2
  have HC : Hid (∀ W, Bx g m w0 W → W.cell? ⟨x, 0, none⟩ = some (.func (.func 53) #[] #[.pointer (some ⟨a, 0, none⟩)]) ∧ W.cell? ⟨x, 1, none⟩ = some (.func (.func 55) #[] #[.pointer (some ⟨a, 0, none⟩), .pointer (some ⟨b, 0, none⟩)]) ∧ W.cell? ⟨x, 2, none⟩ = some (.func (.func 56) #[] #[.pointer (some ⟨a, 0, none⟩)])) := fun W hb => ⟨(bx_cell hb hx hxg hxm).trans hc0, (bx_cell hb hx hxg hxm).trans hc1, (bx_cell hb hx hxg hxm).trans hc2⟩
  have H0 := Lib.hid h0
  clear h0 hc0 hc1 hc2 C0 C1 C2
  go_enter Try.func30, Try.ntmps30
  go_wp2
  go_loopw [8] (fun v wr => ∃ j : Nat, j ≤ 3 ∧ v = .int .i64 (j : Int) ∧ Hid (∀ i, 1 ≤ i → i ≤ j → (R i).1 = 0) ∧ Hid (PD wr g m (R j).2.files.length (R j).2) ∧ Hid (Bx g m w0 wr)) (fun v _ => 3 - (intOf v).toNat)
  case atStart => exact ⟨0, Nat.zero_le _, rfl, fun i h1 h2 => by omega, H0.out, Bx.refl _ _ _⟩
  case round =>
    obtain ⟨j, hj, rfl, HZ, HP, HX⟩ := hrel
    obtain ⟨c0, c1, c2⟩ := HC.out _ HX.out
    have hxl : x < wr.heap.size := Nat.lt_of_lt_of_le hx HX.out.size
    by_cases hlt : j < 3
    · match j, hlt with
      | 0, _ =>
        have CC := Lib.hid (K0.out wr HP.out HX.out)
        have HPK : Hid (∀ z, (R 1).1 = z → z = 0 → ∀ i, 1 ≤ i → i ≤ 1 → (R i).1 = 0) := fun z e1 e2 i h1 h2 => by
          by_cases hi : i = 1
          · rw [hi, e1, e2]
          · exact HZ.out i h1 (by omega)
        have HPN : Hid (∀ z, (R 1).1 = z → z ≠ 0 → pickR R 3 = R 1) := fun z e1 e2 => pick_at R (by omega) (by omega) (by rw [e1]; exact e2) fun i h1 h2 => HZ.out i h1 (by omega)
        obtain ⟨z, hz⟩ : ∃ z, Hid ((R 1).1 = z) := ⟨_, rfl⟩
        rw [hz.out] at CC
        clear HC K0 K1 K2
        by_cases h0 : z = 0
        · subst h0
          go_wp2_with (go_at_call 53; (with_reducible refine CC.out.mono ?_); rintro e w1 ⟨rfl, HP1, HX1⟩)
          go_roundw
          case rel => exact ⟨1, by omega, rfl, HPK.out 0 hz.out rfl, HP1.out, HX.out.trans HX1.out⟩
          case measure => simp [intOf]
        · have hpn := Lib.hid (HPN.out z hz.out h0)
          have dz : (z != 0) = true := bne_iff_ne.2 h0
          go_wp2_with (go_at_call 53; (with_reducible refine CC.out.mono ?_); rintro e w1 ⟨rfl, HP1, HX1⟩)
          go_ret
          rw [hpn.out]
          exact ⟨by rw [hz.out]; rfl, HP1, HX.out.trans HX1.out⟩
      | 1, _ =>
        have CC := Lib.hid (K1.out wr HP.out HX.out)
        have HPK : Hid (∀ z, (R 2).1 = z → z = 0 → ∀ i, 1 ≤ i → i ≤ 2 → (R i).1 = 0) := fun z e1 e2 i h1 h2 => by
          by_cases hi : i = 2
          · rw [hi, e1, e2]
          · exact HZ.out i h1 (by omega)
        have HPN : Hid (∀ z, (R 2).1 = z → z ≠ 0 → pickR R 3 = R 2) := fun z e1 e2 => pick_at R (by omega) (by omega) (by rw [e1]; exact e2) fun i h1 h2 => HZ.out i h1 (by omega)
        obtain ⟨z, hz⟩ : ∃ z, Hid ((R 2).1 = z) := ⟨_, rfl⟩
        rw [hz.out] at CC
        clear HC K0 K1 K2
        by_cases h0 : z = 0
        · subst h0
          go_wp2_with (go_at_call 55; (with_reducible refine CC.out.mono ?_); rintro e w1 ⟨rfl, HP1, HX1⟩)
          go_roundw
          case rel => exact ⟨2, by omega, rfl, HPK.out 0 hz.out rfl, HP1.out, HX.out.trans HX1.out⟩
          case measure => simp [intOf]
        · have hpn := Lib.hid (HPN.out z hz.out h0)
          have dz : (z != 0) = true := bne_iff_ne.2 h0
          go_wp2_with (go_at_call 55; (with_reducible refine CC.out.mono ?_); rintro e w1 ⟨rfl, HP1, HX1⟩)
          go_ret
          rw [hpn.out]
          exact ⟨by rw [hz.out]; rfl, HP1, HX.out.trans HX1.out⟩
      | 2, _ =>
        have CC := Lib.hid (K2.out wr HP.out HX.out)
        have HPK : Hid (∀ z, (R 3).1 = z → z = 0 → ∀ i, 1 ≤ i → i ≤ 3 → (R i).1 = 0) := fun z e1 e2 i h1 h2 => by
          by_cases hi : i = 3
          · rw [hi, e1, e2]
          · exact HZ.out i h1 (by omega)
        have HPN : Hid (∀ z, (R 3).1 = z → z ≠ 0 → pickR R 3 = R 3) := fun z e1 e2 => pick_at R (by omega) (by omega) (by rw [e1]; exact e2) fun i h1 h2 => HZ.out i h1 (by omega)
        obtain ⟨z, hz⟩ : ∃ z, Hid ((R 3).1 = z) := ⟨_, rfl⟩
        rw [hz.out] at CC
        clear HC K0 K1 K2
        by_cases h0 : z = 0
        · subst h0
          go_wp2_with (go_at_call 56; (with_reducible refine CC.out.mono ?_); rintro e w1 ⟨rfl, HP1, HX1⟩)
          go_roundw
          case rel => exact ⟨3, by omega, rfl, HPK.out 0 hz.out rfl, HP1.out, HX.out.trans HX1.out⟩
          case measure => simp [intOf]
        · have hpn := Lib.hid (HPN.out z hz.out h0)
          have dz : (z != 0) = true := bne_iff_ne.2 h0
          go_wp2_with (go_at_call 56; (with_reducible refine CC.out.mono ?_); rintro e w1 ⟨rfl, HP1, HX1⟩)
          go_ret
          rw [hpn.out]
          exact ⟨by rw [hz.out]; rfl, HP1, HX.out.trans HX1.out⟩
    · have he : j = 3 := by omega
      subst he
      have hpe : Hid (pickR R 3 = R 3) := pick_end R (by omega) fun i h1 h2 => HZ.out i h1 (by omega)
      have hz0 : Hid ((R 3).1 = 0) := HZ.out 3 (by omega) (Nat.le_refl _)
      go_wp2
      go_ret
      rw [hpe.out]
      exact ⟨by rw [hz0.out]; rfl, HP, HX⟩
set_option maxHeartbeats 4000000 in
theorem steps_write (w0 : World) (g m x a b : Nat) (R : Nat → Int × DkIn) (hx : x < w0.heap.size) (hxg : x ≠ g) (hxm : x ≠ m) (hc0 : w0.cell? ⟨x, 0, none⟩ = some (.func (.func 31) #[] #[.pointer (some ⟨a, 0, none⟩), .pointer (some ⟨b, 0, none⟩)])) (hc1 : w0.cell? ⟨x, 1, none⟩ = some (.func (.func 33) #[] #[.pointer (some ⟨a, 0, none⟩)]))
    (C0 : ∀ W, PD W g m (R 0).2.files.length (R 0).2 → Bx g m w0 W → Calls Try.prog 31 #[.pointer (some ⟨a, 0, none⟩), .pointer (some ⟨b, 0, none⟩)] W fun e w' => e = .returned (.int .i64 (R 1).1) ∧ Hid (PD w' g m (R 1).2.files.length (R 1).2) ∧ Hid (Bx g m W w'))
    (C1 : ∀ W, PD W g m (R 1).2.files.length (R 1).2 → Bx g m w0 W → Calls Try.prog 33 #[.pointer (some ⟨a, 0, none⟩)] W fun e w' => e = .returned (.int .i64 (R 2).1) ∧ Hid (PD w' g m (R 2).2.files.length (R 2).2) ∧ Hid (Bx g m W w'))
    (h0 : PD w0 g m (R 0).2.files.length (R 0).2) :
    Calls Try.prog 30 #[.slice (some ⟨x, 0, none⟩) 2 2] w0 fun e w' => e = .returned (.int .i64 (pickR R 2).1) ∧ Hid (PD w' g m (pickR R 2).2.files.length (pickR R 2).2) ∧ Hid (Bx g m w0 w') := by
  have K0 := Lib.hid C0
  have K1 := Lib.hid C1
  have HC : Hid (∀ W, Bx g m w0 W → W.cell? ⟨x, 0, none⟩ = some (.func (.func 31) #[] #[.pointer (some ⟨a, 0, none⟩), .pointer (some ⟨b, 0, none⟩)]) ∧ W.cell? ⟨x, 1, none⟩ = some (.func (.func 33) #[] #[.pointer (some ⟨a, 0, none⟩)])) := fun W hb => ⟨(bx_cell hb hx hxg hxm).trans hc0, (bx_cell hb hx hxg hxm).trans hc1⟩
  have H0 := Lib.hid h0
  clear h0 hc0 hc1 C0 C1
  go_enter Try.func30, Try.ntmps30
  go_wp2
  go_loopw [8] (fun v wr => ∃ j : Nat, j ≤ 2 ∧ v = .int .i64 (j : Int) ∧ Hid (∀ i, 1 ≤ i → i ≤ j → (R i).1 = 0) ∧ Hid (PD wr g m (R j).2.files.length (R j).2) ∧ Hid (Bx g m w0 wr)) (fun v _ => 2 - (intOf v).toNat)
  case atStart => exact ⟨0, Nat.zero_le _, rfl, fun i h1 h2 => by omega, H0.out, Bx.refl _ _ _⟩
  case round =>
    obtain ⟨j, hj, rfl, HZ, HP, HX⟩ := hrel
    obtain ⟨c0, c1⟩ := HC.out _ HX.out
    have hxl : x < wr.heap.size := Nat.lt_of_lt_of_le hx HX.out.size
    by_cases hlt : j < 2
    · match j, hlt with
      | 0, _ =>
        have CC := Lib.hid (K0.out wr HP.out HX.out)
        have HPK : Hid (∀ z, (R 1).1 = z → z = 0 → ∀ i, 1 ≤ i → i ≤ 1 → (R i).1 = 0) := fun z e1 e2 i h1 h2 => by
          by_cases hi : i = 1
          · rw [hi, e1, e2]
          · exact HZ.out i h1 (by omega)
        have HPN : Hid (∀ z, (R 1).1 = z → z ≠ 0 → pickR R 2 = R 1) := fun z e1 e2 => pick_at R (by omega) (by omega) (by rw [e1]; exact e2) fun i h1 h2 => HZ.out i h1 (by omega)
        obtain ⟨z, hz⟩ : ∃ z, Hid ((R 1).1 = z) := ⟨_, rfl⟩
        rw [hz.out] at CC
        clear HC K0 K1
        by_cases h0 : z = 0
        · subst h0
          go_wp2_with (go_at_call 31; (with_reducible refine CC.out.mono ?_); rintro e w1 ⟨rfl, HP1, HX1⟩)
          go_roundw
          case rel => exact ⟨1, by omega, rfl, HPK.out 0 hz.out rfl, HP1.out, HX.out.trans HX1.out⟩
          case measure => simp [intOf]
        · have hpn := Lib.hid (HPN.out z hz.out h0)
          have dz : (z != 0) = true := bne_iff_ne.2 h0
          go_wp2_with (go_at_call 31; (with_reducible refine CC.out.mono ?_); rintro e w1 ⟨rfl, HP1, HX1⟩)
          go_ret
          rw [hpn.out]
          exact ⟨by rw [hz.out]; rfl, HP1, HX.out.trans HX1.out⟩
      | 1, _ =>
        have CC := Lib.hid (K1.out wr HP.out HX.out)
        have HPK : Hid (∀ z, (R 2).1 = z → z = 0 → ∀ i, 1 ≤ i → i ≤ 2 → (R i).1 = 0) := fun z e1 e2 i h1 h2 => by
          by_cases hi : i = 2
          · rw [hi, e1, e2]
          · exact HZ.out i h1 (by omega)
        have HPN : Hid (∀ z, (R 2).1 = z → z ≠ 0 → pickR R 2 = R 2) := fun z e1 e2 => pick_at R (by omega) (by omega) (by rw [e1]; exact e2) fun i h1 h2 => HZ.out i h1 (by omega)
        obtain ⟨z, hz⟩ : ∃ z, Hid ((R 2).1 = z) := ⟨_, rfl⟩
        rw [hz.out] at CC
        clear HC K0 K1
        by_cases h0 : z = 0
        · subst h0
          go_wp2_with (go_at_call 33; (with_reducible refine CC.out.mono ?_); rintro e w1 ⟨rfl, HP1, HX1⟩)
          go_roundw
          case rel => exact ⟨2, by omega, rfl, HPK.out 0 hz.out rfl, HP1.out, HX.out.trans HX1.out⟩
          case measure => simp [intOf]
        · have hpn := Lib.hid (HPN.out z hz.out h0)
          have dz : (z != 0) = true := bne_iff_ne.2 h0
          go_wp2_with (go_at_call 33; (with_reducible refine CC.out.mono ?_); rintro e w1 ⟨rfl, HP1, HX1⟩)
          go_ret
          rw [hpn.out]
          exact ⟨by rw [hz.out]; rfl, HP1, HX.out.trans HX1.out⟩
    · have he : j = 2 := by omega
      subst he
      have hpe : Hid (pickR R 2 = R 2) := pick_end R (by omega) fun i h1 h2 => HZ.out i h1 (by omega)
      have hz0 : Hid ((R 2).1 = 0) := HZ.out 2 (by omega) (Nat.le_refl _)
      go_wp2
      go_ret
      rw [hpe.out]
      exact ⟨by rw [hz0.out]; rfl, HP, HX⟩
set_option maxHeartbeats 4000000 in
theorem steps_snap (w0 : World) (g m x a b : Nat) (R : Nat → Int × DkIn) (hx : x < w0.heap.size) (hxg : x ≠ g) (hxm : x ≠ m) (hc0 : w0.cell? ⟨x, 0, none⟩ = some (.func (.func 36) #[] #[.pointer (some ⟨a, 0, none⟩), .pointer (some ⟨b, 0, none⟩)])) (hc1 : w0.cell? ⟨x, 1, none⟩ = some (.func (.func 39) #[] #[.pointer (some ⟨a, 0, none⟩)])) (hc2 : w0.cell? ⟨x, 2, none⟩ = some (.func (.func 40) #[] #[.pointer (some ⟨a, 0, none⟩)])) (hc3 : w0.cell? ⟨x, 3, none⟩ = some (.func (.func 42) #[] #[.pointer (some ⟨a, 0, none⟩)]))
    (C0 : ∀ W, PD W g m (R 0).2.files.length (R 0).2 → Bx g m w0 W → Calls Try.prog 36 #[.pointer (some ⟨a, 0, none⟩), .pointer (some ⟨b, 0, none⟩)] W fun e w' => e = .returned (.int .i64 (R 1).1) ∧ Hid (PD w' g m (R 1).2.files.length (R 1).2) ∧ Hid (Bx g m W w'))
    (C1 : ∀ W, PD W g m (R 1).2.files.length (R 1).2 → Bx g m w0 W → Calls Try.prog 39 #[.pointer (some ⟨a, 0, none⟩)] W fun e w' => e = .returned (.int .i64 (R 2).1) ∧ Hid (PD w' g m (R 2).2.files.length (R 2).2) ∧ Hid (Bx g m W w'))
    (C2 : ∀ W, PD W g m (R 2).2.files.length (R 2).2 → Bx g m w0 W → Calls Try.prog 40 #[.pointer (some ⟨a, 0, none⟩)] W fun e w' => e = .returned (.int .i64 (R 3).1) ∧ Hid (PD w' g m (R 3).2.files.length (R 3).2) ∧ Hid (Bx g m W w'))
    (C3 : ∀ W, PD W g m (R 3).2.files.length (R 3).2 → Bx g m w0 W → Calls Try.prog 42 #[.pointer (some ⟨a, 0, none⟩)] W fun e w' => e = .returned (.int .i64 (R 4).1) ∧ Hid (PD w' g m (R 4).2.files.length (R 4).2) ∧ Hid (Bx g m W w'))
    (h0 : PD w0 g m (R 0).2.files.length (R 0).2) :
    Calls Try.prog 30 #[.slice (some ⟨x, 0, none⟩) 4 4] w0 fun e w' => e = .returned (.int .i64 (pickR R 4).1) ∧ Hid (PD w' g m (pickR R 4).2.files.length (pickR R 4).2) ∧ Hid (Bx g m w0 w') := by
  have K0 := Lib.hid C0
  have K1 := Lib.hid C1
  have K2 := Lib.hid C2
  have K3 := Lib.hid C3
  have HC : Hid (∀ W, Bx g m w0 W → W.cell? ⟨x, 0, none⟩ = some (.func (.func 36) #[] #[.pointer (some ⟨a, 0, none⟩), .pointer (some ⟨b, 0, none⟩)]) ∧ W.cell? ⟨x, 1, none⟩ = some (.func (.func 39) #[] #[.pointer (some ⟨a, 0, none⟩)]) ∧ W.cell? ⟨x, 2, none⟩ = some (.func (.func 40) #[] #[.pointer (some ⟨a, 0, none⟩)]) ∧ W.cell? ⟨x, 3, none⟩ = some (.func (.func 42) #[] #[.pointer (some ⟨a, 0, none⟩)])) := fun W hb => ⟨(bx_cell hb hx hxg hxm).trans hc0, (bx_cell hb hx hxg hxm).trans hc1, (bx_cell hb hx hxg hxm).trans hc2, (bx_cell hb hx hxg hxm).trans hc3⟩
  have H0 := Lib.hid h0
  clear h0 hc0 hc1 hc2 hc3 C0 C1 C2 C3
  go_enter Try.func30, Try.ntmps30
  go_wp2
  go_loopw [8] (fun v wr => ∃ j : Nat, j ≤ 4 ∧ v = .int .i64 (j : Int) ∧ Hid (∀ i, 1 ≤ i → i ≤ j → (R i).1 = 0) ∧ Hid (PD wr g m (R j).2.files.length (R j).2) ∧ Hid (Bx g m w0 wr)) (fun v _ => 4 - (intOf v).toNat)
  case atStart => exact ⟨0, Nat.zero_le _, rfl, fun i h1 h2 => by omega, H0.out, Bx.refl _ _ _⟩
  case round =>
    obtain ⟨j, hj, rfl, HZ, HP, HX⟩ := hrel
    obtain ⟨c0, c1, c2, c3⟩ := HC.out _ HX.out
    have hxl : x < wr.heap.size := Nat.lt_of_lt_of_le hx HX.out.size
    by_cases hlt : j < 4
    · match j, hlt with
      | 0, _ =>
        have CC := Lib.hid (K0.out wr HP.out HX.out)
        have HPK : Hid (∀ z, (R 1).1 = z → z = 0 → ∀ i, 1 ≤ i → i ≤ 1 → (R i).1 = 0) := fun z e1 e2 i h1 h2 => by
          by_cases hi : i = 1
          · rw [hi, e1, e2]
          · exact HZ.out i h1 (by omega)
        have HPN : Hid (∀ z, (R 1).1 = z → z ≠ 0 → pickR R 4 = R 1) := fun z e1 e2 => pick_at R (by omega) (by omega) (by rw [e1]; exact e2) fun i h1 h2 => HZ.out i h1 (by omega)
        obtain ⟨z, hz⟩ : ∃ z, Hid ((R 1).1 = z) := ⟨_, rfl⟩
        rw [hz.out] at CC
        clear HC K0 K1 K2 K3
        by_cases h0 : z = 0
        · subst h0
          go_wp2_with (go_at_call 36; (with_reducible refine CC.out.mono ?_); rintro e w1 ⟨rfl, HP1, HX1⟩)
          go_roundw
          case rel => exact ⟨1, by omega, rfl, HPK.out 0 hz.out rfl, HP1.out, HX.out.trans HX1.out⟩
          case measure => simp [intOf]
        · have hpn := Lib.hid (HPN.out z hz.out h0)
          have dz : (z != 0) = true := bne_iff_ne.2 h0
          go_wp2_with (go_at_call 36; (with_reducible refine CC.out.mono ?_); rintro e w1 ⟨rfl, HP1, HX1⟩)
          go_ret
          rw [hpn.out]
          exact ⟨by rw [hz.out]; rfl, HP1, HX.out.trans HX1.out⟩
      | 1, _ =>
        have CC := Lib.hid (K1.out wr HP.out HX.out)
        have HPK : Hid (∀ z, (R 2).1 = z → z = 0 → ∀ i, 1 ≤ i → i ≤ 2 → (R i).1 = 0) := fun z e1 e2 i h1 h2 => by
          by_cases hi : i = 2
          · rw [hi, e1, e2]
          · exact HZ.out i h1 (by omega)
        have HPN : Hid (∀ z, (R 2).1 = z → z ≠ 0 → pickR R 4 = R 2) := fun z e1 e2 => pick_at R (by omega) (by omega) (by rw [e1]; exact e2) fun i h1 h2 => HZ.out i h1 (by omega)
        obtain ⟨z, hz⟩ : ∃ z, Hid ((R 2).1 = z) := ⟨_, rfl⟩
        rw [hz.out] at CC
        clear HC K0 K1 K2 K3
        by_cases h0 : z = 0
        · subst h0
          go_wp2_with (go_at_call 39; (with_reducible refine CC.out.mono ?_); rintro e w1 ⟨rfl, HP1, HX1⟩)
          go_roundw
          case rel => exact ⟨2, by omega, rfl, HPK.out 0 hz.out rfl, HP1.out, HX.out.trans HX1.out⟩
          case measure => simp [intOf]
        · have hpn := Lib.hid (HPN.out z hz.out h0)
          have dz : (z != 0) = true := bne_iff_ne.2 h0
          go_wp2_with (go_at_call 39; (with_reducible refine CC.out.mono ?_); rintro e w1 ⟨rfl, HP1, HX1⟩)
          go_ret
          rw [hpn.out]
          exact ⟨by rw [hz.out]; rfl, HP1, HX.out.trans HX1.out⟩
      | 2, _ =>
        have CC := Lib.hid (K2.out wr HP.out HX.out)
        have HPK : Hid (∀ z, (R 3).1 = z → z = 0 → ∀ i, 1 ≤ i → i ≤ 3 → (R i).1 = 0) := fun z e1 e2 i h1 h2 => by
          by_cases hi : i = 3
          · rw [hi, e1, e2]
          · exact HZ.out i h1 (by omega)
        have HPN : Hid (∀ z, (R 3).1 = z → z ≠ 0 → pickR R 4 = R 3) := fun z e1 e2 => pick_at R (by omega) (by omega) (by rw [e1]; exact e2) fun i h1 h2 => HZ.out i h1 (by omega)
        obtain ⟨z, hz⟩ : ∃ z, Hid ((R 3).1 = z) := ⟨_, rfl⟩
        rw [hz.out] at CC
        clear HC K0 K1 K2 K3
        by_cases h0 : z = 0
        · subst h0
          go_wp2_with (go_at_call 40; (with_reducible refine CC.out.mono ?_); rintro e w1 ⟨rfl, HP1, HX1⟩)
          go_roundw
          case rel => exact ⟨3, by omega, rfl, HPK.out 0 hz.out rfl, HP1.out, HX.out.trans HX1.out⟩
          case measure => simp [intOf]
        · have hpn := Lib.hid (HPN.out z hz.out h0)
          have dz : (z != 0) = true := bne_iff_ne.2 h0
          go_wp2_with (go_at_call 40; (with_reducible refine CC.out.mono ?_); rintro e w1 ⟨rfl, HP1, HX1⟩)
          go_ret
          rw [hpn.out]
          exact ⟨by rw [hz.out]; rfl, HP1, HX.out.trans HX1.out⟩
      | 3, _ =>
        have CC := Lib.hid (K3.out wr HP.out HX.out)
        have HPK : Hid (∀ z, (R 4).1 = z → z = 0 → ∀ i, 1 ≤ i → i ≤ 4 → (R i).1 = 0) := fun z e1 e2 i h1 h2 => by
          by_cases hi : i = 4
          · rw [hi, e1, e2]
          · exact HZ.out i h1 (by omega)
        have HPN : Hid (∀ z, (R 4).1 = z → z ≠ 0 → pickR R 4 = R 4) := fun z e1 e2 => pick_at R (by omega) (by omega) (by rw [e1]; exact e2) fun i h1 h2 => HZ.out i h1 (by omega)
        obtain ⟨z, hz⟩ : ∃ z, Hid ((R 4).1 = z) := ⟨_, rfl⟩
        rw [hz.out] at CC
        clear HC K0 K1 K2 K3
        by_cases h0 : z = 0
        · subst h0
          go_wp2_with (go_at_call 42; (with_reducible refine CC.out.mono ?_); rintro e w1 ⟨rfl, HP1, HX1⟩)
          go_roundw
          case rel => exact ⟨4, by omega, rfl, HPK.out 0 hz.out rfl, HP1.out, HX.out.trans HX1.out⟩
          case measure => simp [intOf]
        · have hpn := Lib.hid (HPN.out z hz.out h0)
          have dz : (z != 0) = true := bne_iff_ne.2 h0
          go_wp2_with (go_at_call 42; (with_reducible refine CC.out.mono ?_); rintro e w1 ⟨rfl, HP1, HX1⟩)
          go_ret
          rw [hpn.out]
          exact ⟨by rw [hz.out]; rfl, HP1, HX.out.trans HX1.out⟩
    · have he : j = 4 := by omega
      subst he
      have hpe : Hid (pickR R 4 = R 4) := pick_end R (by omega) fun i h1 h2 => HZ.out i h1 (by omega)
      have hz0 : Hid ((R 4).1 = 0) := HZ.out 4 (by omega) (Nat.le_refl _)
      go_wp2
      go_ret
      rw [hpe.out]
      exact ⟨by rw [hz0.out]; rfl, HP, HX⟩
end Jrn
end Go.Proofs.Yteaikleofboknaa
end
section
set_option maxRecDepth 100000
namespace Go.Proofs.Yteaikleofboknaa
open Go.RowKit Go.Great Go.Maps
namespace Jrn
open Frm (fits num put scan strs rows allS allE oks ok cats)
open In (strVals Strs)
open Dsk
/-- A disk as it stands, and how much there is of it. -/
structure PG (w : World) (g m : Nat) (d : DkIn) (k B : Nat) : Prop where
  pd : PD w g m d.files.length d
  gr : Gr d k B
theorem PG.big {w : World} {g m : Nat} {d : DkIn} {k B : Nat} (h : PG w g m d k B) : (∀ f ∈ d.files, f.by'.length ≤ 1000000000) ∧ bytesOf d.files ≤ 1000000000 := ⟨fun f hf => Nat.le_trans (h.gr.lens.1 f hf) (by decide), Nat.le_trans h.gr.lens.2 (by decide)⟩
theorem append_pg (w : World) (g m k B : Nat) (d : DkIn) (h : PG w g m d k B) (hk : k < 1000000) (s b : ByteArray) (hs : s.size ≤ 1000000000) (hb : b.size ≤ 1000000000) : Calls Try.prog 32 #[.pointer (some ⟨g, 0, none⟩), .string s, .string b] w fun e w' => e = .returned (.int .i64 (appendV d s.data.toList b.data.toList).1) ∧ Hid (PD w' g m (appendV d s.data.toList b.data.toList).2.files.length (appendV d s.data.toList b.data.toList).2) ∧ Hid (Bx g m w w') :=
  (append_any w g m _ d h.pd h.gr.ok (by have := h.gr.len; omega) s b hs hb h.big.2 h.big.1).mono fun e w' ⟨h1, h2, h3⟩ => ⟨h1, h2.out.tight, h3⟩
theorem sync_pg (w : World) (g m k B : Nat) (d : DkIn) (h : PG w g m d k B) (hk : k < 1000000) (s : ByteArray) (hs : s.size ≤ 1000000000) : Calls Try.prog 34 #[.pointer (some ⟨g, 0, none⟩), .string s] w fun e w' => e = .returned (.int .i64 (syncV d s.data.toList).1) ∧ Hid (PD w' g m (syncV d s.data.toList).2.files.length (syncV d s.data.toList).2) ∧ Hid (Bx g m w w') :=
  (sync_any w g m _ d h.pd h.gr.ok (by have := h.gr.len; omega) s hs).mono fun e w' ⟨h1, h2, h3⟩ => ⟨h1, h2.out.tight, h3⟩
theorem cut_pg (w : World) (g m k B : Nat) (d : DkIn) (h : PG w g m d k B) (hk : k < 1000000) (s : ByteArray) (hs : s.size ≤ 1000000000) (z : Int) : Calls Try.prog 27 #[.pointer (some ⟨g, 0, none⟩), .string s, .int .i64 z] w fun e w' => e = .returned (.int .i64 (cutV d s.data.toList z).1) ∧ Hid (PD w' g m (cutV d s.data.toList z).2.files.length (cutV d s.data.toList z).2) ∧ Hid (Bx g m w w') :=
  (cut_any w g m _ d h.pd h.gr.ok (by have := h.gr.len; omega) s hs z h.big.1).mono fun e w' ⟨h1, h2, h3⟩ => ⟨h1, h2.out.tight, h3⟩
theorem rename_pg (w : World) (g m k B : Nat) (d : DkIn) (h : PG w g m d k B) (hk : k < 1000000) (s t : ByteArray) (hs : s.size ≤ 1000000000) (ht : t.size ≤ 1000000000) : Calls Try.prog 41 #[.pointer (some ⟨g, 0, none⟩), .string s, .string t] w fun e w' => e = .returned (.int .i64 (renameV d s.data.toList t.data.toList).1) ∧ Hid (PD w' g m (renameV d s.data.toList t.data.toList).2.files.length (renameV d s.data.toList t.data.toList).2) ∧ Hid (Bx g m w w') :=
  (rename_any w g m _ d h.pd h.gr.ok (by have := h.gr.len; omega) s t hs ht).mono fun e w' ⟨h1, h2, h3⟩ => ⟨h1, h2.out.tight, h3⟩
set_option maxHeartbeats 2000000 in
theorem clears_pg (w : World) (g m k B : Nat) (d : DkIn) (h : PG w g m d k B) (hk : k < 1000000) (s : ByteArray) (hs : s.size ≤ 1000000000) : Calls Try.prog 54 #[.pointer (some ⟨g, 0, none⟩), .string s] w fun e w' => e = .returned (.int .i64 (clearsV d s.data.toList).1) ∧ Hid (PD w' g m (clearsV d s.data.toList).2.files.length (clearsV d s.data.toList).2) ∧ Hid (Bx g m w w') := by
  have CR := Lib.hid (read_any w g m _ d h.pd s hs)
  have HP := Lib.hid h.pd
  have CC : Hid (∀ W, PD W g m d.files.length d → Calls Try.prog 27 #[.pointer (some ⟨g, 0, none⟩), .string s, .int .i64 0] W fun e w' => e = .returned (.int .i64 (cutV d s.data.toList 0).1) ∧ Hid (PD w' g m (cutV d s.data.toList 0).2.files.length (cutV d s.data.toList 0).2) ∧ Hid (Bx g m W w')) := fun W hp => cut_pg W g m k B d ⟨hp, h.gr⟩ hk s hs 0
  clear h
  by_cases h0 : (readV d s.data.toList).2 = 0
  · have e : clearsV d s.data.toList = cutV d s.data.toList 0 := if_pos h0
    rw [e]
    rw [h0] at CR
    clear h0 e
    generalize cutV d s.data.toList 0 = R at *
    generalize (readV d s.data.toList).1.toArray = T at *
    go_enter Try.func54, Try.ntmps54
    go_wp2_with (first
      | (go_at_call 22; (with_reducible refine CR.out.mono ?_); rintro e w1 ⟨rfl, hb1⟩; have HB1 := Lib.hid hb1; clear hb1)
      | (go_at_call 27; (with_reducible refine (CC.out _ (HP.out.below HB1.out)).mono ?_); rintro e w2 ⟨rfl, HP2, HX2⟩))
    go_ret
    exact ⟨rfl, HP2, (Bx.below HB1.out).trans HX2.out⟩
  · have e : clearsV d s.data.toList = (0, d) := if_neg h0
    rw [e]
    generalize (readV d s.data.toList).2 = z at *
    generalize (readV d s.data.toList).1.toArray = T at *
    have dz : (z != 0) = true := bne_iff_ne.2 h0
    clear h0 e
    go_enter Try.func54, Try.ntmps54
    go_wp2_with (go_at_call 22; (with_reducible refine CR.out.mono ?_); rintro e w1 ⟨rfl, hb1⟩; have HB1 := Lib.hid hb1; clear hb1)
    go_ret
    exact ⟨rfl, HP.out.below HB1.out, Bx.below HB1.out⟩
/-- What a function that holds the disk answers. -/
theorem begins1_any (w : World) (g m k B a : Nat) (d : DkIn) (h : PG w g m d k B) (hk : k < 1000000) (ha : w.cell? ⟨a, 0, none⟩ = some (.pointer (some ⟨g, 0, none⟩))) : Calls Try.prog 53 #[.pointer (some ⟨a, 0, none⟩)] w fun e w' => e = .returned (.int .i64 (clearsV d logN).1) ∧ Hid (PD w' g m (clearsV d logN).2.files.length (clearsV d logN).2) ∧ Hid (Bx g m w w') := by
  have CC : Hid (Calls Try.prog 54 #[.pointer (some ⟨g, 0, none⟩), .string ⟨#[108, 111, 103]⟩] w fun e w' => e = .returned (.int .i64 (clearsV d logN).1) ∧ Hid (PD w' g m (clearsV d logN).2.files.length (clearsV d logN).2) ∧ Hid (Bx g m w w')) := clears_pg w g m k B d h hk ⟨#[108, 111, 103]⟩ (by decide)
  clear h
  generalize clearsV d logN = R at *
  go_enter Try.func53, Try.ntmps53
  go_wp2_with (go_at_call 54; (with_reducible refine CC.out.mono ?_); rintro e w1 ⟨rfl, HP1, HX1⟩)
  go_ret
  exact ⟨rfl, HP1, HX1⟩
theorem begins2_any (w : World) (g m k B a b : Nat) (d : DkIn) (h : PG w g m d k B) (hk : k < 1000000) (ha : w.cell? ⟨a, 0, none⟩ = some (.pointer (some ⟨g, 0, none⟩))) (T : ByteArray) (hT : T.size ≤ 1000000) (hb : w.cell? ⟨b, 0, none⟩ = some (.string T)) : Calls Try.prog 55 #[.pointer (some ⟨a, 0, none⟩), .pointer (some ⟨b, 0, none⟩)] w fun e w' => e = .returned (.int .i64 (appendV d logN T.data.toList).1) ∧ Hid (PD w' g m (appendV d logN T.data.toList).2.files.length (appendV d logN T.data.toList).2) ∧ Hid (Bx g m w w') := by
  have CC : Hid (∀ W, PD W g m d.files.length d → Calls Try.prog 32 #[.pointer (some ⟨g, 0, none⟩), .string ⟨#[108, 111, 103]⟩, .string T] W fun e w' => e = .returned (.int .i64 (appendV d logN T.data.toList).1) ∧ Hid (PD w' g m (appendV d logN T.data.toList).2.files.length (appendV d logN T.data.toList).2) ∧ Hid (Bx g m W w')) := fun W hp => append_pg W g m k B d ⟨hp, h.gr⟩ hk ⟨#[108, 111, 103]⟩ T (by decide) (by omega)
  have HP := Lib.hid h.pd
  clear h
  generalize appendV d logN T.data.toList = R at *
  go_enter Try.func55, Try.ntmps55
  go_wp2_with (go_at_call 32; (with_reducible refine (CC.out _ HP.out).mono ?_); rintro e w1 ⟨rfl, HP1, HX1⟩)
  go_ret
  exact ⟨rfl, HP1, HX1⟩
theorem begins3_any (w : World) (g m k B a : Nat) (d : DkIn) (h : PG w g m d k B) (hk : k < 1000000) (ha : w.cell? ⟨a, 0, none⟩ = some (.pointer (some ⟨g, 0, none⟩))) : Calls Try.prog 56 #[.pointer (some ⟨a, 0, none⟩)] w fun e w' => e = .returned (.int .i64 (syncV d logN).1) ∧ Hid (PD w' g m (syncV d logN).2.files.length (syncV d logN).2) ∧ Hid (Bx g m w w') := by
  have CC : Hid (Calls Try.prog 34 #[.pointer (some ⟨g, 0, none⟩), .string ⟨#[108, 111, 103]⟩] w fun e w' => e = .returned (.int .i64 (syncV d logN).1) ∧ Hid (PD w' g m (syncV d logN).2.files.length (syncV d logN).2) ∧ Hid (Bx g m w w')) := sync_pg w g m k B d h hk ⟨#[108, 111, 103]⟩ (by decide)
  clear h
  generalize syncV d logN = R at *
  go_enter Try.func56, Try.ntmps56
  go_wp2_with (go_at_call 34; (with_reducible refine CC.out.mono ?_); rintro e w1 ⟨rfl, HP1, HX1⟩)
  go_ret
  exact ⟨rfl, HP1, HX1⟩
/-- The states on the way. -/
def beginsR (d : DkIn) (g : Nat) : Nat → Int × DkIn
  | 0 => (0, d)
  | 1 => clearsV d logN
  | 2 => appendV (clearsV d logN).2 logN (put (headL g))
  | _ => syncV (appendV (clearsV d logN).2 logN (put (headL g))).2 logN
theorem begins_pick (d : DkIn) (g : Nat) : pickR (beginsR d g) 3 = beginsV d g := by
  unfold pickR pickF pickF pickF pickF beginsV thenV
  show (if (clearsV d logN).1 = 0 then _ else _) = _
  by_cases h1 : (clearsV d logN).1 = 0
  · rw [if_pos h1, if_pos h1]
    show (if (appendV (clearsV d logN).2 logN (put (headL g))).1 = 0 then _ else _) = _
    by_cases h2 : (appendV (clearsV d logN).2 logN (put (headL g))).1 = 0
    · rw [if_pos h2, if_pos h2]
      show (if (syncV (appendV (clearsV d logN).2 logN (put (headL g))).2 logN).1 = 0 then _ else _) = _
      split <;> rfl
    · rw [if_neg h2, if_neg h2]
      rfl
  · rw [if_neg h1, if_neg h1, if_neg h1]
    rfl
theorem gr_beginsR {d : DkIn} {k B : Nat} (h : Gr d k B) (hk : k < 1000000) (g : Nat) : ∀ j, j ≤ 3 → Gr (beginsR d g j).2 (k + j) (B + 17)
  | 0, _ => h.mono (by omega) (by omega)
  | 1, _ => (gr_clears h (by omega) logN).mono (by omega) (by omega)
  | 2, _ => by
    have := gr_append (gr_clears h (by omega) logN) (by omega) logN (put (headL g))
    rw [headP_length] at this
    exact this
  | 3, _ => by
    have := gr_append (gr_clears h (by omega) logN) (by omega) logN (put (headL g))
    rw [headP_length] at this
    exact gr_sync this (by omega) logN
theorem three_lies {w w1 w2 : World} {oA vB : Value} {tA tB tC : TypeId} {cs : Array Value} (h1 : Below (w.alloc (.cells #[oA] tA)).heap.size (w.alloc (.cells #[oA] tA)) w1) (h2 : Below w1.heap.size w1 w2) :
    ((w2.alloc (.cells #[vB] tB)).alloc (.cells cs tC)).cell? ⟨w.heap.size, 0, none⟩ = some oA ∧ ((w2.alloc (.cells #[vB] tB)).alloc (.cells cs tC)).cell? ⟨w2.heap.size, 0, none⟩ = some vB ∧ (∀ j, ((w2.alloc (.cells #[vB] tB)).alloc (.cells cs tC)).cell? ⟨w2.heap.size + 1, j, none⟩ = cs[j]?) ∧
    Below w.heap.size w ((w2.alloc (.cells #[vB] tB)).alloc (.cells cs tC)) ∧ w.heap.size < w2.heap.size ∧ ((w2.alloc (.cells #[vB] tB)).alloc (.cells cs tC)).heap.size = w2.heap.size + 2 := by
  have e1 : (w.alloc (.cells #[oA] tA)).heap.size = w.heap.size + 1 := by simp
  have h3 : Below (w.alloc (.cells #[oA] tA)).heap.size (w.alloc (.cells #[oA] tA)) ((w2.alloc (.cells #[vB] tB)).alloc (.cells cs tC)) := below_al (below_al (below2 h1 h2) _) _
  have h4 := (below2 h1 h2).size
  refine ⟨(h3.cell (p := ⟨w.heap.size, 0, none⟩) (by rw [e1]; exact Nat.lt_succ_self _)).trans (Own.cell_new _ _ _), ((below_al (Below.refl _ _) _).cell (p := ⟨w2.heap.size, 0, none⟩) (by simp)).trans (Own.cell_new _ _ _), fun j => ?_, below2 (below_al (Below.refl _ _) _) h3, by omega, by simp⟩
  exact cell_of_row _ _ j _ _ _ (heap_alloc2_new w2 _ _)
set_option maxHeartbeats 4000000 in
theorem begins_pg (w : World) (g m k B : Nat) (d : DkIn) (h : PG w g m d k B) (hk : k < 900000) (gen : Nat) (hgen : gen ≤ 1099511627776) : Calls Try.prog 26 #[.pointer (some ⟨g, 0, none⟩), .int .i64 (gen : Int)] w fun e w' => e = .returned (.int .i64 (beginsV d gen).1) ∧ Hid (PD w' g m (beginsV d gen).2.files.length (beginsV d gen).2) ∧ Hid (Bx g m w w') := by
  have NU : Hid (∀ W : World, Calls Try.prog 52 #[.int .i64 (gen : Int)] W fun e w' => e = .returned (.string ⟨(num8 gen).toArray⟩) ∧ Below W.heap.size W w') := number_any gen hgen
  obtain ⟨N1, hN1⟩ : ∃ N : ByteArray, Hid ((⟨(num8 gen).toArray⟩ : ByteArray) = N) := ⟨_, rfl⟩
  have s1 : N1.size = 8 := by rw [← hN1.out]; rfl
  have hd : (ByteArray.mk #[76] ++ N1).data.toList = headL gen := by rw [← hN1.out]; simp [headL]
  have PU : Hid (∀ W : World, Calls Try.prog 29 #[.string (ByteArray.mk #[76] ++ N1)] W fun e w' => e = .returned (.tuple #[.string ⟨(put (headL gen)).toArray⟩, .int .i64 0]) ∧ Below W.heap.size W w') := fun W => by
    have := Frm.put_yes (ByteArray.mk #[76] ++ N1) (by rw [← sz_list, hd]; exact headL_fits gen) W
    rw [hd] at this
    exact this
  obtain ⟨T, hT⟩ : ∃ T : ByteArray, Hid ((⟨(put (headL gen)).toArray⟩ : ByteArray) = T) := ⟨_, rfl⟩
  have tl : T.data.toList = put (headL gen) := by rw [← hT.out]
  have tsz : T.size ≤ 1000000 := by rw [← sz_list, tl, headP_length]; decide
  rw [hN1.out] at NU
  rw [hT.out] at PU
  obtain ⟨hgl, hml⟩ := h.pd.lt
  have HPD := Lib.hid h.pd
  have HGR := Lib.hid (gr_beginsR h.gr (by omega) gen)
  have ST : Hid (∀ (W : World) (x a b : Nat), x < W.heap.size → a < W.heap.size → b < W.heap.size → w.heap.size ≤ x → w.heap.size ≤ a → w.heap.size ≤ b → PD W g m d.files.length d →
      W.cell? ⟨a, 0, none⟩ = some (.pointer (some ⟨g, 0, none⟩)) → W.cell? ⟨b, 0, none⟩ = some (.string T) →
      W.cell? ⟨x, 0, none⟩ = some (.func (.func 53) #[] #[.pointer (some ⟨a, 0, none⟩)]) →
      W.cell? ⟨x, 1, none⟩ = some (.func (.func 55) #[] #[.pointer (some ⟨a, 0, none⟩), .pointer (some ⟨b, 0, none⟩)]) →
      W.cell? ⟨x, 2, none⟩ = some (.func (.func 56) #[] #[.pointer (some ⟨a, 0, none⟩)]) →
      Calls Try.prog 30 #[.slice (some ⟨x, 0, none⟩) 3 3] W fun e w' => e = .returned (.int .i64 (beginsV d gen).1) ∧ Hid (PD w' g m (beginsV d gen).2.files.length (beginsV d gen).2) ∧ Hid (Bx g m W w')) := by
    intro W x a b hx ha hb hx0 ha0 hb0 hp ca cb c0 c1 c2
    have hq := steps_begins W g m x a b (beginsR d gen) hx (by omega) (by omega) c0 c1 c2
      (fun V hV hX => begins1_any V g m (k + 0) (B + 17) a _ ⟨hV, HGR.out 0 (by omega)⟩ (by omega) ((bx_cell hX ha (by omega) (by omega)).trans ca))
      (fun V hV hX => by
        have := begins2_any V g m (k + 1) (B + 17) a b _ ⟨hV, HGR.out 1 (by omega)⟩ (by omega) ((bx_cell hX ha (by omega) (by omega)).trans ca) T tsz ((bx_cell hX hb (by omega) (by omega)).trans cb)
        rw [tl] at this
        exact this)
      (fun V hV hX => begins3_any V g m (k + 2) (B + 17) a _ ⟨hV, HGR.out 2 (by omega)⟩ (by omega) ((bx_cell hX ha (by omega) (by omega)).trans ca)) hp
    rw [begins_pick] at hq
    exact hq
  clear h tl hd HGR
  generalize beginsV d gen = R at *
  go_enter Try.func26, Try.ntmps26
  go_wp2_with (first
    | (go_at_call 52; (with_reducible refine (NU.out _).mono ?_); rintro e w1 ⟨rfl, hb1⟩; have HB1 := Lib.hid hb1; clear hb1)
    | (go_at_call 29; (with_reducible refine (PU.out _).mono ?_); rintro e w2 ⟨rfl, hb2⟩; have HB2 := Lib.hid hb2; clear hb2)
    | (go_at_call 30; obtain ⟨ca, cb, cx, hbl, hlt, hsz⟩ := three_lies (tB := 9) (tC := 71) HB1.out HB2.out; (with_reducible refine (ST.out _ _ w.heap.size w2.heap.size ?_ ?_ ?_ ?_ ?_ ?_ (HPD.out.below hbl) ca cb (cx 0) (cx 1) (cx 2)).mono ?_); (rw [hsz]; exact Nat.lt_succ_self _); (rw [hsz]; omega); (rw [hsz]; omega); omega; omega; omega; rintro e w3 ⟨rfl, HP3, HX3⟩; have HB3 := Lib.hid ((Bx.below hbl).trans HX3.out)))
  go_ret
  exact ⟨rfl, HP3, HB3.out⟩
end Jrn
end Go.Proofs.Yteaikleofboknaa
end
section
set_option maxRecDepth 100000
namespace Go.Proofs.Yteaikleofboknaa
open Go.RowKit Go.Great Go.Maps
namespace Jrn
open Frm (fits num put scan strs rows allS allE oks ok cats)
open In (strVals Strs)
open Dsk
def cellJ (g : Nat) (gen cnt : Int) (dead : Bool) (i : Nat) : Value := if i = 0 then .pointer (some ⟨g, 0, none⟩) else if i = 1 then .int .i64 gen else if i = 2 then .int .i64 cnt else .bool dead
/-- A journal that stands in a block. -/
structure JR (w : World) (j g : Nat) (gen cnt : Int) (dead : Bool) : Prop where
  row : w.rowIs j 46 4 (cellJ g gen cnt dead)
theorem JR.cells {w : World} {j g : Nat} {gen cnt : Int} {dead : Bool} (h : JR w j g gen cnt dead) : w.cell? ⟨j, 0, none⟩ = some (.pointer (some ⟨g, 0, none⟩)) ∧ w.cell? ⟨j, 1, none⟩ = some (.int .i64 gen) ∧ w.cell? ⟨j, 2, none⟩ = some (.int .i64 cnt) ∧ w.cell? ⟨j, 3, none⟩ = some (.bool dead) :=
  ⟨World.rowIs.cell h.row (i := 0) (by decide), World.rowIs.cell h.row (i := 1) (by decide), World.rowIs.cell h.row (i := 2) (by decide), World.rowIs.cell h.row (i := 3) (by decide)⟩
theorem JR.lt {w : World} {j g : Nat} {gen cnt : Int} {dead : Bool} (h : JR w j g gen cnt dead) : j < w.heap.size := World.rowIs.lt h.row
theorem JR.bx {w w' : World} {j g m : Nat} {gen cnt : Int} {dead : Bool} (h : JR w j g gen cnt dead) (hb : Bx g m w w') (h1 : j ≠ g) (h2 : j ≠ m) : JR w' j g gen cnt dead := ⟨h.row.of_block (hb.block j h.lt h1 h2)⟩
theorem JR.below {w w' : World} {j g : Nat} {gen cnt : Int} {dead : Bool} (h : JR w j g gen cnt dead) (hb : Below w.heap.size w w') : JR w' j g gen cnt dead := ⟨h.row.of_block (hb.block j h.lt)⟩
theorem JR.setDead {w : World} {j g : Nat} {gen cnt : Int} {dead : Bool} (h : JR w j g gen cnt dead) (x : Bool) : JR (w.setCell ⟨j, 3, none⟩ (.bool x)) j g gen cnt x := by
  refine ⟨World.rowIs.congr (World.rowIs.set h.row 3 _) fun i hi => ?_⟩
  match i, hi with
  | 0, _ => rfl
  | 1, _ => rfl
  | 2, _ => rfl
  | 3, _ => rfl
theorem JR.setCnt {w : World} {j g : Nat} {gen cnt : Int} {dead : Bool} (h : JR w j g gen cnt dead) (x : Int) : JR (w.setCell ⟨j, 2, none⟩ (.int .i64 x)) j g gen x dead := by
  refine ⟨World.rowIs.congr (World.rowIs.set h.row 2 _) fun i hi => ?_⟩
  match i, hi with
  | 0, _ => rfl
  | 1, _ => rfl
  | 2, _ => rfl
  | 3, _ => rfl
theorem JR.setGen {w : World} {j g : Nat} {gen cnt : Int} {dead : Bool} (h : JR w j g gen cnt dead) (x : Int) : JR (w.setCell ⟨j, 1, none⟩ (.int .i64 x)) j g x cnt dead := by
  refine ⟨World.rowIs.congr (World.rowIs.set h.row 1 _) fun i hi => ?_⟩
  match i, hi with
  | 0, _ => rfl
  | 1, _ => rfl
  | 2, _ => rfl
  | 3, _ => rfl
/-- Of the blocks that were there none has turned but those of a disk and of a journal. -/
structure Bj (g m j : Nat) (a b : World) : Prop where
  os : b.os = a.os
  tape : b.tape = a.tape
  output : b.output = a.output
  size : a.heap.size ≤ b.heap.size
  block : ∀ k, k < a.heap.size → k ≠ g → k ≠ m → k ≠ j → b.heap[k]? = a.heap[k]?
theorem Bj.of {g m : Nat} (j : Nat) {a b : World} (h : Bx g m a b) : Bj g m j a b := ⟨h.os, h.tape, h.output, h.size, fun k hk h1 h2 _ => h.block k hk h1 h2⟩
theorem Bj.below (g m j : Nat) {a b : World} (h : Below a.heap.size a b) : Bj g m j a b := ⟨h.os, h.tape, h.output, h.size, fun k hk _ _ _ => h.block k hk⟩
theorem Bj.refl (g m j : Nat) (a : World) : Bj g m j a a := ⟨rfl, rfl, rfl, Nat.le_refl _, fun _ _ _ _ _ => rfl⟩
theorem Bj.trans {g m j : Nat} {a b c : World} (h : Bj g m j a b) (h2 : Bj g m j b c) : Bj g m j a c :=
  ⟨h2.os.trans h.os, h2.tape.trans h.tape, h2.output.trans h.output, Nat.le_trans h.size h2.size, fun k hk h3 h4 h5 => (h2.block k (Nat.lt_of_lt_of_le hk h.size) h3 h4 h5).trans (h.block k hk h3 h4 h5)⟩
theorem Bj.grown (g m j : Nat) {a b : World} (h : a.grownBy b (some j)) : Bj g m j a b :=
  ⟨h.os, h.tape, h.output, h.size, fun k hk _ _ h5 => h.block k hk fun e => h5 (Option.some.inj e)⟩
theorem set_grw (W : World) (j i : Nat) (u : Value) : W.grownBy (W.setCell ⟨j, i, none⟩ u) (some j) := ⟨rfl, rfl, rfl, by simp, fun k hk hne => Below.heap_setCell _ _ _ _ fun e => hne (by rw [e])⟩
theorem wakes_j (w : World) (j g m n : Nat) (d : DkIn) (gen cnt : Int) (dead : Bool) (hj : JR w j g gen cnt dead) (h : PD w g m n d) : Calls Try.prog 28 #[.pointer (some ⟨j, 0, none⟩)] w fun e w' => e = .returned (.int .i64 (if dead || d.dead then 14 else 0)) ∧ w = w' := by
  have CD := Lib.hid (dead_any w g m n d h)
  obtain ⟨c0, c1, c2, c3⟩ := hj.cells
  clear h hj
  cases dead
  all_goals
    generalize d.dead = b at *
    cases b
  all_goals go_enter Try.func28, Try.ntmps28
  all_goals go_wp2_with (go_at_call 21; (with_reducible refine CD.out.mono ?_); rintro e w1 ⟨rfl, rfl⟩)
  all_goals go_ret
  all_goals exact ⟨rfl, rfl⟩
theorem wakes_nil (w : World) : Calls Try.prog 28 #[.pointer none] w fun e w' => e = .returned (.int .i64 1) ∧ w = w' := by
  go_enter Try.func28, Try.ntmps28
  go_wp2
  go_ret
  exact ⟨rfl, rfl⟩
theorem wakes_zero (w : World) (j : Nat) (h : w.cell? ⟨j, 0, none⟩ = some (.pointer none)) : Calls Try.prog 28 #[.pointer (some ⟨j, 0, none⟩)] w fun e w' => e = .returned (.int .i64 1) ∧ w = w' := by
  go_enter Try.func28, Try.ntmps28
  go_wp2
  go_ret
  exact ⟨rfl, rfl⟩
/-- Does an error let a journal be dead? -/
def kills (e : Int) : Bool := !decide (e = 0) && !decide (e = 4)
theorem tells_any (w : World) (j g : Nat) (gen cnt : Int) (hj : JR w j g gen cnt false) (z : Int) : Calls Try.prog 35 #[.pointer (some ⟨j, 0, none⟩), .int .i64 z] w fun e w' => e = .returned (.int .i64 z) ∧ Hid (JR w' j g gen cnt (kills z)) ∧ Hid (w.grownBy w' (some j)) := by
  have HJ := Lib.hid hj
  have f3 := World.rowIs.frozen hj.row 3
  obtain ⟨c0, c1, c2, c3⟩ := hj.cells
  clear hj
  by_cases h0 : z = 0
  · subst h0
    go_enter Try.func35, Try.ntmps35
    go_wp2
    go_ret
    exact ⟨rfl, HJ.out, ⟨rfl, rfl, rfl, Nat.le_refl _, fun _ _ _ => rfl⟩⟩
  · have d0 : (z != 0) = true := bne_iff_ne.2 h0
    by_cases h4 : z = 4
    · subst h4
      go_enter Try.func35, Try.ntmps35
      go_wp2
      go_ret
      exact ⟨rfl, HJ.out, ⟨rfl, rfl, rfl, Nat.le_refl _, fun _ _ _ => rfl⟩⟩
    · have d4 : (z != 4) = true := bne_iff_ne.2 h4
      have ek : kills z = true := by unfold kills; rw [decide_eq_false h0, decide_eq_false h4]; rfl
      rw [ek]
      go_enter Try.func35, Try.ntmps35
      go_wp2
      go_ret
      exact ⟨rfl, HJ.out.setDead true, set_grw _ _ _ _⟩

set_option maxHeartbeats 4000000 in
theorem lays_pg (w : World) (j g m k B : Nat) (d : DkIn) (h : PG w g m d k B) (hk : k < 900000) (gen cnt : Int) (dead : Bool) (hj : JR w j g gen cnt dead) (hjg : j ≠ g) (hjm : j ≠ m) (s : ByteArray) (hs : s.size ≤ 1000000000) : Calls Try.prog 37 #[.pointer (some ⟨j, 0, none⟩), .string s] w fun e w' => e = .returned (.int .i64 (laysV d s.data.toList).1) ∧ Hid (PD w' g m (laysV d s.data.toList).2.files.length (laysV d s.data.toList).2) ∧ Hid (Bx g m w w') := by
  have G1 := gr_clears h.gr (by omega) newN
  have C1 : Hid (Calls Try.prog 54 #[.pointer (some ⟨g, 0, none⟩), .string ⟨#[115, 110, 97, 112, 46, 110, 101, 119]⟩] w fun e w' => e = .returned (.int .i64 (clearsV d newN).1) ∧ Hid (PD w' g m (clearsV d newN).2.files.length (clearsV d newN).2) ∧ Hid (Bx g m w w')) := clears_pg w g m k B d h (by omega) ⟨#[115, 110, 97, 112, 46, 110, 101, 119]⟩ (by decide)
  have HJ := Lib.hid hj
  clear h hj
  unfold laysV
  generalize clearsV d newN = R at *
  obtain ⟨z, d1⟩ := R
  dsimp only at *
  have G2 := gr_append G1 (by omega) newN s.data.toList
  have C2 : Hid (∀ W, PD W g m d1.files.length d1 → Calls Try.prog 32 #[.pointer (some ⟨g, 0, none⟩), .string ⟨#[115, 110, 97, 112, 46, 110, 101, 119]⟩, .string s] W fun e w' => e = .returned (.int .i64 (appendV d1 newN s.data.toList).1) ∧ Hid (PD w' g m (appendV d1 newN s.data.toList).2.files.length (appendV d1 newN s.data.toList).2) ∧ Hid (Bx g m W w')) := fun W hp => append_pg W g m (k + 1) B d1 ⟨hp, G1⟩ (by omega) ⟨#[115, 110, 97, 112, 46, 110, 101, 119]⟩ s (by decide) hs
  by_cases h0 : z = 0
  · subst h0
    unfold thenV
    rw [if_pos rfl]
    dsimp only
    generalize appendV d1 newN s.data.toList = R2 at *
    obtain ⟨z2, d2⟩ := R2
    dsimp only at *
    have C3 : Hid (∀ W, PD W g m d2.files.length d2 → Calls Try.prog 54 #[.pointer (some ⟨g, 0, none⟩), .string ⟨#[115, 110, 97, 112, 46, 110, 101, 119]⟩] W fun e w' => e = .returned (.int .i64 (clearsV d2 newN).1) ∧ Hid (PD w' g m (clearsV d2 newN).2.files.length (clearsV d2 newN).2) ∧ Hid (Bx g m W w')) := fun W hp => clears_pg W g m (k + 1 + 1) _ d2 ⟨hp, G2⟩ (by omega) ⟨#[115, 110, 97, 112, 46, 110, 101, 119]⟩ (by decide)
    by_cases h4 : z2 = 4
    · subst h4
      rw [if_pos rfl]
      generalize clearsV d2 newN = R3 at *
      obtain ⟨z3, d3⟩ := R3
      dsimp only at *
      by_cases h3 : z3 = 0
      · subst h3
        rw [if_pos rfl]
        obtain ⟨c0, c1, c2, c3⟩ := HJ.out.cells
        go_enter Try.func37, Try.ntmps37
        go_wp2_with (first
          | (go_at_call 54; (with_reducible refine C1.out.mono ?_); rintro e w1 ⟨rfl, HP1, HX1⟩; obtain ⟨y0, -⟩ := (HJ.out.bx HX1.out hjg hjm).cells)
          | (go_at_call 32; (with_reducible refine (C2.out _ HP1.out).mono ?_); rintro e w2 ⟨rfl, HP2, HX2⟩; obtain ⟨x0, -⟩ := (HJ.out.bx (HX1.out.trans HX2.out) hjg hjm).cells)
          | (go_at_call 54; (with_reducible refine (C3.out _ HP2.out).mono ?_); rintro e w3 ⟨rfl, HP3, HX3⟩))
        go_ret
        exact ⟨rfl, HP3, (HX1.out.trans HX2.out).trans HX3.out⟩
      · have e3 : (z3 != 0) = true := bne_iff_ne.2 h3
        rw [if_neg h3]
        obtain ⟨c0, c1, c2, c3⟩ := HJ.out.cells
        go_enter Try.func37, Try.ntmps37
        go_wp2_with (first
          | (go_at_call 54; (with_reducible refine C1.out.mono ?_); rintro e w1 ⟨rfl, HP1, HX1⟩; obtain ⟨y0, -⟩ := (HJ.out.bx HX1.out hjg hjm).cells)
          | (go_at_call 32; (with_reducible refine (C2.out _ HP1.out).mono ?_); rintro e w2 ⟨rfl, HP2, HX2⟩; obtain ⟨x0, -⟩ := (HJ.out.bx (HX1.out.trans HX2.out) hjg hjm).cells)
          | (go_at_call 54; (with_reducible refine (C3.out _ HP2.out).mono ?_); rintro e w3 ⟨rfl, HP3, HX3⟩))
        go_ret
        exact ⟨rfl, HP3, (HX1.out.trans HX2.out).trans HX3.out⟩
    · have e4 : (z2 == 4) = false := beq_eq_false_iff_ne.2 h4
      rw [if_neg h4]
      obtain ⟨c0, c1, c2, c3⟩ := HJ.out.cells
      go_enter Try.func37, Try.ntmps37
      go_wp2_with (first
        | (go_at_call 54; (with_reducible refine C1.out.mono ?_); rintro e w1 ⟨rfl, HP1, HX1⟩; obtain ⟨y0, -⟩ := (HJ.out.bx HX1.out hjg hjm).cells)
        | (go_at_call 32; (with_reducible refine (C2.out _ HP1.out).mono ?_); rintro e w2 ⟨rfl, HP2, HX2⟩))
      go_ret
      exact ⟨rfl, HP2, HX1.out.trans HX2.out⟩
  · have e0 : (z != 0) = true := bne_iff_ne.2 h0
    unfold thenV
    rw [if_neg h0]
    obtain ⟨c0, c1, c2, c3⟩ := HJ.out.cells
    go_enter Try.func37, Try.ntmps37
    go_wp2_with (go_at_call 54; (with_reducible refine C1.out.mono ?_); rintro e w1 ⟨rfl, HP1, HX1⟩)
    go_ret
    exact ⟨rfl, HP1, HX1⟩
theorem write2_any (w : World) (g m k B a j : Nat) (d : DkIn) (h : PG w g m d k B) (hk : k < 1000000) (gen cnt : Int) (dead : Bool) (hj : JR w j g gen cnt dead) (ha : w.cell? ⟨a, 0, none⟩ = some (.pointer (some ⟨j, 0, none⟩))) : Calls Try.prog 33 #[.pointer (some ⟨a, 0, none⟩)] w fun e w' => e = .returned (.int .i64 (syncV d logN).1) ∧ Hid (PD w' g m (syncV d logN).2.files.length (syncV d logN).2) ∧ Hid (Bx g m w w') := by
  have CC : Hid (Calls Try.prog 34 #[.pointer (some ⟨g, 0, none⟩), .string ⟨#[108, 111, 103]⟩] w fun e w' => e = .returned (.int .i64 (syncV d logN).1) ∧ Hid (PD w' g m (syncV d logN).2.files.length (syncV d logN).2) ∧ Hid (Bx g m w w')) := sync_pg w g m k B d h hk ⟨#[108, 111, 103]⟩ (by decide)
  obtain ⟨c0, c1, c2, c3⟩ := hj.cells
  clear h hj
  generalize syncV d logN = R at *
  go_enter Try.func33, Try.ntmps33
  go_wp2_with (go_at_call 34; (with_reducible refine CC.out.mono ?_); rintro e w1 ⟨rfl, HP1, HX1⟩)
  go_ret
  exact ⟨rfl, HP1, HX1⟩
theorem snap2_any (w : World) (g m k B a j : Nat) (d : DkIn) (h : PG w g m d k B) (hk : k < 1000000) (gen cnt : Int) (dead : Bool) (hj : JR w j g gen cnt dead) (ha : w.cell? ⟨a, 0, none⟩ = some (.pointer (some ⟨j, 0, none⟩))) : Calls Try.prog 39 #[.pointer (some ⟨a, 0, none⟩)] w fun e w' => e = .returned (.int .i64 (syncV d newN).1) ∧ Hid (PD w' g m (syncV d newN).2.files.length (syncV d newN).2) ∧ Hid (Bx g m w w') := by
  have CC : Hid (Calls Try.prog 34 #[.pointer (some ⟨g, 0, none⟩), .string ⟨#[115, 110, 97, 112, 46, 110, 101, 119]⟩] w fun e w' => e = .returned (.int .i64 (syncV d newN).1) ∧ Hid (PD w' g m (syncV d newN).2.files.length (syncV d newN).2) ∧ Hid (Bx g m w w')) := sync_pg w g m k B d h hk ⟨#[115, 110, 97, 112, 46, 110, 101, 119]⟩ (by decide)
  obtain ⟨c0, c1, c2, c3⟩ := hj.cells
  clear h hj
  generalize syncV d newN = R at *
  go_enter Try.func39, Try.ntmps39
  go_wp2_with (go_at_call 34; (with_reducible refine CC.out.mono ?_); rintro e w1 ⟨rfl, HP1, HX1⟩)
  go_ret
  exact ⟨rfl, HP1, HX1⟩
theorem snap3_any (w : World) (g m k B a j : Nat) (d : DkIn) (h : PG w g m d k B) (hk : k < 1000000) (gen cnt : Int) (dead : Bool) (hj : JR w j g gen cnt dead) (ha : w.cell? ⟨a, 0, none⟩ = some (.pointer (some ⟨j, 0, none⟩))) : Calls Try.prog 40 #[.pointer (some ⟨a, 0, none⟩)] w fun e w' => e = .returned (.int .i64 (renameV d newN snapN).1) ∧ Hid (PD w' g m (renameV d newN snapN).2.files.length (renameV d newN snapN).2) ∧ Hid (Bx g m w w') := by
  have CC : Hid (Calls Try.prog 41 #[.pointer (some ⟨g, 0, none⟩), .string ⟨#[115, 110, 97, 112, 46, 110, 101, 119]⟩, .string ⟨#[115, 110, 97, 112]⟩] w fun e w' => e = .returned (.int .i64 (renameV d newN snapN).1) ∧ Hid (PD w' g m (renameV d newN snapN).2.files.length (renameV d newN snapN).2) ∧ Hid (Bx g m w w')) := rename_pg w g m k B d h hk ⟨#[115, 110, 97, 112, 46, 110, 101, 119]⟩ ⟨#[115, 110, 97, 112]⟩ (by decide) (by decide)
  obtain ⟨c0, c1, c2, c3⟩ := hj.cells
  clear h hj
  generalize renameV d newN snapN = R at *
  go_enter Try.func40, Try.ntmps40
  go_wp2_with (go_at_call 41; (with_reducible refine CC.out.mono ?_); rintro e w1 ⟨rfl, HP1, HX1⟩)
  go_ret
  exact ⟨rfl, HP1, HX1⟩
end Jrn
end Go.Proofs.Yteaikleofboknaa
end
