/- What must come, whatever the arguments are: the walk. -/
import Derived.Test.YtnbmjbelmcibgaaDskI
set_option linter.unusedSimpArgs false
set_option linter.unusedVariables false
namespace Go.Proofs.Ytnbmjbelmcibgaa
open Go.RowKit Go.Great Go.Maps
namespace Dsk
theorem Bx.below2 {g m B : Nat} {a b c : World} (h : Below B a b) (h2 : Bx g m b c) (hB : B ≤ a.heap.size) (hg : B ≤ g) (hm : B ≤ m) : Below B a c := h.trans (h2.toBelow (Nat.le_trans hB h.size) hg hm)
def xyD (b : List UInt8) (sure : Nat) (ops : Int) : DkIn := ⟨[⟨aB, b, sure⟩], 10, ops, 0, false, false⟩
theorem xy1 : appendV (newD 10) aB [120, 121] = (0, xyD [120, 121] 0 1) := rfl
theorem xy2 : syncV (xyD [120, 121] 0 1) aB = (0, xyD [120, 121] 2 2) := rfl
theorem xy3 : appendV (xyD [120, 121] 2 2) aB [122] = (0, xyD [120, 121, 122] 2 3) := rfl
theorem xy4 : appendV (xyD [120, 121, 122] 2 3) bB [49, 50, 51, 52, 53, 54, 55, 56] = (4, xyD [120, 121, 122] 2 3) := rfl
theorem xy5 : crashV (xyD [120, 121, 122] 2 3) [] = xyD [120, 121] 2 3 := rfl
theorem xy_ok (b : List UInt8) (n : Nat) (o : Int) (hn : n ≤ b.length) (ho : 0 ≤ o ∧ o ≤ 10) (hb : b.length ≤ 10) : Siz (xyD b n o) 10 := by
  refine ⟨⟨⟨List.pairwise_singleton _ _, fun f hf => ?_, fun f hf => ?_⟩, ?_, ?_, ?_⟩, ?_, ?_, ?_⟩
  · rw [List.mem_singleton.1 hf]; rfl
  · rw [List.mem_singleton.1 hf]; exact hn
  · exact ⟨by show (0 : Int) ≤ 10; decide, by show (10 : Int) ≤ _; decide⟩
  · exact ⟨ho.1, by show o ≤ _; omega⟩
  · exact ⟨by show (0 : Int) ≤ 0; decide, by show (0 : Int) ≤ _; decide⟩
  · show 1 ≤ 10; decide
  · show b.length + 0 ≤ _; omega
  · exact ho.2
theorem new_siz (z : Int) (h : 0 ≤ z ∧ z ≤ 16777216) : Siz (newD z) 0 :=
  ⟨⟨⟨List.Pairwise.nil, fun f hf => absurd hf (by simp [newD]), fun f hf => absurd hf (by simp [newD])⟩, h, ⟨Int.le_refl _, by show (0 : Int) ≤ _; decide⟩, ⟨Int.le_refl _, by show (0 : Int) ≤ _; decide⟩⟩, Nat.le_refl _, Nat.le_refl _, Int.le_refl _⟩
theorem row_strs (l : List (List UInt8)) : rowOf l = In.strVals (l.map fun b => (⟨b.toArray⟩ : ByteArray)) := by
  unfold rowOf In.strVals
  rw [List.map_map]
  rfl
theorem names_strs {w : World} {B : Nat} {v : Value} {l : List (List UInt8)} (h : w.ownsRow B 9 1 v l.length (rowOf l)) : ∃ a cap, v = .slice a l.length cap ∧ In.Strs w a (l.map fun b => (⟨b.toArray⟩ : ByteArray)) := by
  rw [row_strs] at h
  have e : (l.map fun b => (⟨b.toArray⟩ : ByteArray)).length = l.length := List.length_map ..
  rw [← e] at h ⊢
  exact In.strs_of_own h
theorem strs_new1 (w : World) (x : ByteArray) (T : TypeId) : In.Strs (w.alloc (.cells #[.string x] T)) (some ⟨w.heap.size, 0, none⟩) [x] := fun i hi => by
  have : i = 0 := by simp at hi; exact hi
  subst this
  exact ⟨_, _, rfl, by simp, by rw [World.cell?_alloc_at _ _ _ _ (by simp)]; rfl⟩
theorem ints_nil (w : World) : In.IsInts .i64 w (.slice none 0 0) [] := ⟨none, 0, rfl, Nat.zero_le _, fun i hi => absurd hi (Nat.not_lt_zero i), fun s hs => (by cases hs), Nat.le_refl _, Nat.zero_le _⟩
set_option maxRecDepth 100000 in
set_option maxHeartbeats 4000000 in
theorem awake_any (w : World) : Calls Try.prog 7 #[] w fun e w' => e = .returned (.bool true) ∧ Below w.heap.size w w' := by
  obtain ⟨g, hg⟩ : ∃ g, g = w.heap.size + 1 := ⟨_, rfl⟩
  obtain ⟨m, hm⟩ : ∃ m, m = w.heap.size := ⟨_, rfl⟩
  have NEW : Hid (Calls Try.prog 8 #[.int .i64 10] w fun e w' => e = .returned (.tuple #[.pointer (some ⟨g, 0, none⟩), .int .i64 0]) ∧ Hid (PD w' g m 0 (newD 10)) ∧ Hid (Below w.heap.size w w')) := by
    rw [hg, hm]
    exact new_any w 10 (by decide)
  have h0 := new_siz 10 (by decide)
  have h1 := xy_ok [120, 121] 0 1 (by decide) (by decide) (by decide)
  have h2 := xy_ok [120, 121] 2 2 (by decide) (by decide) (by decide)
  have h3 := xy_ok [120, 121, 122] 2 3 (by decide) (by decide) (by decide)
  have h4 := xy_ok [120, 121] 2 3 (by decide) (by decide) (by decide)
  have CA1 : Hid (∀ W, PD W g m 0 (newD 10) → Calls Try.prog 9 #[.pointer (some ⟨g, 0, none⟩), .string ⟨#[97]⟩, .string ⟨#[120, 121]⟩] W fun e w' => e = .returned (.int .i64 0) ∧ Hid (PD w' g m 1 (xyD [120, 121] 0 1)) ∧ Hid (Bx g m W w')) := fun W h => by
    have hq := append_any W g m 0 (newD 10) h h0.ok (by omega) ⟨#[97]⟩ ⟨#[120, 121]⟩ (by decide) (by decide) (h0.lens (by omega)).2.1 (h0.lens (by omega)).1
    rw [show appendV (newD 10) (ByteArray.mk #[97]).data.toList (ByteArray.mk #[120, 121]).data.toList = _ from xy1] at hq
    exact hq
  have CS : Hid (∀ W, PD W g m 1 (xyD [120, 121] 0 1) → Calls Try.prog 10 #[.pointer (some ⟨g, 0, none⟩), .string ⟨#[97]⟩] W fun e w' => e = .returned (.int .i64 0) ∧ Hid (PD w' g m 2 (xyD [120, 121] 2 2)) ∧ Hid (Bx g m W w')) := fun W h => by
    have hq := sync_any W g m 1 _ h h1.ok (by omega) ⟨#[97]⟩ (by decide)
    rw [show syncV (xyD [120, 121] 0 1) (ByteArray.mk #[97]).data.toList = _ from xy2] at hq
    exact hq
  have CA2 : Hid (∀ W, PD W g m 2 (xyD [120, 121] 2 2) → Calls Try.prog 9 #[.pointer (some ⟨g, 0, none⟩), .string ⟨#[97]⟩, .string ⟨#[122]⟩] W fun e w' => e = .returned (.int .i64 0) ∧ Hid (PD w' g m 3 (xyD [120, 121, 122] 2 3)) ∧ Hid (Bx g m W w')) := fun W h => by
    have hq := append_any W g m 2 _ h h2.ok (by omega) ⟨#[97]⟩ ⟨#[122]⟩ (by decide) (by decide) (h2.lens (by omega)).2.1 (h2.lens (by omega)).1
    rw [show appendV (xyD [120, 121] 2 2) (ByteArray.mk #[97]).data.toList (ByteArray.mk #[122]).data.toList = _ from xy3] at hq
    exact hq
  have CA3 : Hid (∀ W, PD W g m 3 (xyD [120, 121, 122] 2 3) → Calls Try.prog 9 #[.pointer (some ⟨g, 0, none⟩), .string ⟨#[98]⟩, .string ⟨#[49, 50, 51, 52, 53, 54, 55, 56]⟩] W fun e w' => e = .returned (.int .i64 4) ∧ Hid (PD w' g m 4 (xyD [120, 121, 122] 2 3)) ∧ Hid (Bx g m W w')) := fun W h => by
    have hq := append_any W g m 3 _ h h3.ok (by omega) ⟨#[98]⟩ ⟨#[49, 50, 51, 52, 53, 54, 55, 56]⟩ (by decide) (by decide) (h3.lens (by omega)).2.1 (h3.lens (by omega)).1
    rw [show appendV (xyD [120, 121, 122] 2 3) (ByteArray.mk #[98]).data.toList (ByteArray.mk #[49, 50, 51, 52, 53, 54, 55, 56]).data.toList = _ from xy4] at hq
    exact hq
  have CO : Hid (∀ W, PD W g m 4 (xyD [120, 121, 122] 2 3) → Calls Try.prog 21 #[.pointer (some ⟨g, 0, none⟩)] W fun e w' => e = .returned (.int .i64 3) ∧ W = w') := fun W h => ops_any W g m 4 _ h
  have CR1 : Hid (∀ W, PD W g m 4 (xyD [120, 121, 122] 2 3) → Calls Try.prog 14 #[.pointer (some ⟨g, 0, none⟩), .string ⟨#[97]⟩] W fun e w' => e = .returned (.tuple #[.string ⟨#[120, 121, 122]⟩, .int .i64 0]) ∧ Below W.heap.size W w') := fun W h => by
    have hq := read_any W g m 4 _ h ⟨#[97]⟩ (by decide)
    rw [show readV (xyD [120, 121, 122] 2 3) (ByteArray.mk #[97]).data.toList = ([120, 121, 122], 0) from rfl] at hq
    exact hq
  have CK : Hid (∀ W, PD W g m 4 (xyD [120, 121, 122] 2 3) → Below w.heap.size w W → Calls Try.prog 13 #[.pointer (some ⟨g, 0, none⟩), .slice none 0 0] W fun e w' => e = .returned (.int .i64 0) ∧ Hid (PD w' g m 1 (xyD [120, 121] 2 3)) ∧ Hid (Bx g m W w')) := fun W h hb => by
    have hq := crash_any w W g m 4 _ h h3.ok (by decide) (h3.lens (by omega)).1 _ [] (ints_nil w) hb (by omega) (by omega)
    rw [xy5] at hq
    exact hq
  have CR2 : Hid (∀ W, PD W g m 1 (xyD [120, 121] 2 3) → Calls Try.prog 14 #[.pointer (some ⟨g, 0, none⟩), .string ⟨#[97]⟩] W fun e w' => e = .returned (.tuple #[.string ⟨#[120, 121]⟩, .int .i64 0]) ∧ Below W.heap.size W w') := fun W h => by
    have hq := read_any W g m 1 _ h ⟨#[97]⟩ (by decide)
    rw [show readV (xyD [120, 121] 2 3) (ByteArray.mk #[97]).data.toList = ([120, 121], 0) from rfl] at hq
    exact hq
  have CU : Hid (∀ W, PD W g m 1 (xyD [120, 121] 2 3) → Calls Try.prog 19 #[.pointer (some ⟨g, 0, none⟩)] W fun e w' => e = .returned (.int .i64 2) ∧ Below W.heap.size W w') := fun W h => by
    have hq := used_any W g m 1 _ h h4.ok (h4.lens (by omega)).2.1
    rw [show usedV (xyD [120, 121] 2 3) = 2 from rfl] at hq
    exact hq
  have CN : Hid (∀ W, PD W g m 1 (xyD [120, 121] 2 3) → Calls Try.prog 24 #[.pointer (some ⟨g, 0, none⟩)] W fun e w' => ∃ v, e = .returned v ∧ Hid (w'.ownsRow W.heap.size 9 1 v 1 (rowOf [[97]])) ∧ Hid (Below W.heap.size W w')) := fun W h => by
    have hq := names_any W g m 1 _ h h4.ok (by omega)
    rw [show namesV (xyD [120, 121] 2 3) = [[97]] from rfl] at hq
    exact hq
  have CM : Hid (∀ (a b : Option Addr) (c1 c2 : Nat) (W : World), In.Strs W a [⟨#[97]⟩] → In.Strs W b [⟨#[97]⟩] → Calls Try.prog 23 #[.slice a 1 c1, .slice b 1 c2] W fun e w' => e = .returned (.bool true) ∧ Below W.heap.size W w') := fun a b c1 c2 W h1 h2 => (same_any a b c1 c2 [⟨#[97]⟩] [⟨#[97]⟩] (by decide) (by decide) W h1 h2).mono fun e w' ⟨he, hb⟩ => ⟨by rw [he, show same [(⟨#[97]⟩ : ByteArray)] [⟨#[97]⟩] = true from decide_eq_true rfl], hb⟩
  have hg' : w.heap.size ≤ g := by omega
  have hm' : w.heap.size ≤ m := by omega
  clear h0 h1 h2 h3 h4 hg hm
  go_enter Try.func7, Try.ntmps7
  go_wp2_with (first
    | (go_at_call 8; (refine NEW.out.mono ?_); rintro e w1 ⟨rfl, HP1, HB1⟩)
    | (go_at_call 9; (with_reducible refine (CA1.out _ HP1.out).mono ?_); rintro e w2 ⟨rfl, HP2, HX2⟩; have HB2 := Lib.hid (Bx.below2 HB1.out HX2.out (Nat.le_refl _) hg' hm'))
    | (go_at_call 10; (with_reducible refine (CS.out _ HP2.out).mono ?_); rintro e w3 ⟨rfl, HP3, HX3⟩; have HB3 := Lib.hid (Bx.below2 HB2.out HX3.out (Nat.le_refl _) hg' hm'))
    | (go_at_call 9; (with_reducible refine (CA2.out _ HP3.out).mono ?_); rintro e w4 ⟨rfl, HP4, HX4⟩; have HB4 := Lib.hid (Bx.below2 HB3.out HX4.out (Nat.le_refl _) hg' hm'))
    | (go_at_call 9; (with_reducible refine (CA3.out _ HP4.out).mono ?_); rintro e w5 ⟨rfl, HP5, HX5⟩; have HB5 := Lib.hid (Bx.below2 HB4.out HX5.out (Nat.le_refl _) hg' hm'))
    | (go_at_call 21; (with_reducible refine (CO.out _ HP5.out).mono ?_); rintro e w6 ⟨rfl, rfl⟩)
    | (go_at_call 14; (with_reducible refine (CR1.out _ HP5.out).mono ?_); rintro e w6 ⟨rfl, hb6⟩; have HP6 := Lib.hid (HP5.out.below hb6); have HB6 := Lib.hid (Bx.below2 (g := g) (m := m) HB5.out (Bx.below hb6) (Nat.le_refl _) hg' hm'); clear hb6)
    | (go_at_call 13; (with_reducible refine (CK.out _ HP6.out HB6.out).mono ?_); rintro e w7 ⟨rfl, HP7, HX7⟩; have HB7 := Lib.hid (Bx.below2 HB6.out HX7.out (Nat.le_refl _) hg' hm'))
    | (go_at_call 14; (with_reducible refine (CR2.out _ HP7.out).mono ?_); rintro e w8 ⟨rfl, hb8⟩; have HP8 := Lib.hid (HP7.out.below hb8); have HB8 := Lib.hid (Bx.below2 (g := g) (m := m) HB7.out (Bx.below hb8) (Nat.le_refl _) hg' hm'); clear hb8)
    | (go_at_call 19; (with_reducible refine (CU.out _ HP8.out).mono ?_); rintro e w9 ⟨rfl, hb9⟩; have HP9 := Lib.hid (HP8.out.below hb9); have HB9 := Lib.hid (Bx.below2 (g := g) (m := m) HB8.out (Bx.below hb9) (Nat.le_refl _) hg' hm'); clear hb9)
    | (go_at_call 24; (with_reducible refine (CN.out _ HP9.out).mono ?_); rintro e w10 ⟨v, rfl, HR, HB10⟩; obtain ⟨na, nc, rfl, hst⟩ := names_strs (l := [[97]]) HR.out; have HST := Lib.hid hst; clear hst; have HB11 := Lib.hid (Bx.below2 (g := g) (m := m) HB9.out (Bx.below HB10.out) (Nat.le_refl _) hg' hm'))
    | (go_at_call 23; (with_reducible refine (CM.out _ _ _ _ _ (HST.out.below (below_al (Below.refl _ _) _)) (strs_new1 _ _ _)).mono ?_); rintro e w12 ⟨rfl, hb12⟩; have HB12 := Lib.hid (Bx.below2 (g := g) (m := m) (below_al HB11.out _) (Bx.below hb12) (Nat.le_refl _) hg' hm'); clear hb12))
  go_ret
  exact ⟨rfl, HB12.out⟩
end Dsk
end Go.Proofs.Ytnbmjbelmcibgaa
