/- Whether there are few acts, of few bytes: the walk. -/
import Derived.Test.YtnbmjbelmcibgaaDskAc
set_option linter.unusedSimpArgs false
set_option linter.unusedVariables false
namespace Go.Proofs.Ytnbmjbelmcibgaa
open Go.RowKit Go.Great Go.Maps
namespace Dsk
def Few3 (b : ActB) : Prop := b.a.name.length ≤ 40 ∧ b.a.arg.length ≤ 200 ∧ b.a.keep.length ≤ 20
theorem ActIs.few {W : World} {b : ActB} (h : ActIs W b) (h3 : Few3 b) : Few b.a := ⟨h3.1, h3.2.1, h3.2.2, h.came.n⟩
set_option maxRecDepth 100000 in
set_option maxHeartbeats 4000000 in
theorem small_any (w : World) (a : Option Addr) (cap : Nat) (l : List ActB) (hl : l.length ≤ maxLen) (ha : Acts w a l) (most : Nat) (hm : most ≤ 1000) : Calls Try.prog 15 #[.slice a l.length cap, .int .i64 most] w fun e w' => (∃ r, e = .returned (.bool r) ∧ (r = true → l.length ≤ most ∧ ∀ i, i < l.length → Few3 (l.getD i noA))) ∧ Below w.heap.size w w' := by
  unfold maxLen at hl
  have HA := Lib.hid ha
  clear ha
  obtain ⟨L, hL⟩ : ∃ L, Hid (l.length = L) := ⟨_, rfl⟩
  rw [hL.out] at hl ⊢
  go_enter Try.func15, Try.ntmps15
  go_wp2
  go_loopw [5] (fun v wr => ∃ k : Nat, v = .int .i64 (k : Int) ∧ k ≤ L ∧ k ≤ most ∧ Hid (∀ i, i < k → Few3 (l.getD i noA)) ∧ wr = w) (fun v _ => L - (intOf v).toNat)
  case atStart => exact ⟨0, rfl, by omega, by omega, fun i hi => absurd hi (Nat.not_lt_zero i), rfl⟩
  case round =>
    obtain ⟨k, rfl, hk, hkm, HF, rfl⟩ := hrel
    by_cases hkl : k < L
    · have dk : decide ((k : Int) < (L : Int)) = true := decide_eq_true (by omega)
      by_cases hkm2 : k < most
      · have dm : decide ((k : Int) < (most : Int)) = true := decide_eq_true (by omega)
        obtain ⟨b, off, rfl, hb, hc⟩ := HA.out k (by rw [hL.out]; exact hkl)
        have c2 := hc 2 (by decide)
        have c3 := hc 3 (by decide)
        have c5 := hc 5 (by decide)
        obtain ⟨x, hx⟩ : ∃ x, Hid (l.getD k noA = x) := ⟨_, rfl⟩
        rw [hx.out] at c2 c3 c5
        obtain ⟨⟨kind, nn, name, arg, half, keep⟩, ka, kc⟩ := x
        simp [ActB.val] at c2 c3 c5
        rw [← Nat.add_assoc] at c2 c3 c5
        have s1 : (ByteArray.mk name.toArray).size = name.length := by show name.toArray.size = _; rw [List.size_toArray]
        have s2 : (ByteArray.mk arg.toArray).size = arg.length := by show arg.toArray.size = _; rw [List.size_toArray]
        clear hc
        by_cases q1 : 40 < name.length
        · have e1 : decide ((40 : Int) < (name.length : Int)) = true := decide_eq_true (by omega)
          go_wp2
          go_ret
          exact ⟨⟨false, rfl, fun h => by cases h⟩, Below.refl _ _⟩
        · have e1 : decide ((40 : Int) < (name.length : Int)) = false := decide_eq_false (by omega)
          by_cases q2 : 200 < arg.length
          · have e2 : decide ((200 : Int) < (arg.length : Int)) = true := decide_eq_true (by omega)
            go_wp2
            go_ret
            exact ⟨⟨false, rfl, fun h => by cases h⟩, Below.refl _ _⟩
          · have e2 : decide ((200 : Int) < (arg.length : Int)) = false := decide_eq_false (by omega)
            by_cases q3 : 20 < keep.length
            · have e3 : decide ((20 : Int) < (keep.length : Int)) = true := decide_eq_true (by omega)
              go_wp2
              go_ret
              exact ⟨⟨false, rfl, fun h => by cases h⟩, Below.refl _ _⟩
            · have e3 : decide ((20 : Int) < (keep.length : Int)) = false := decide_eq_false (by omega)
              have HN : Hid (∀ i, i < k + 1 → Few3 (l.getD i noA)) := fun i hi => by
                by_cases hik : i = k
                · subst hik
                  rw [hx.out]
                  exact ⟨by show name.length ≤ 40; omega, by show arg.length ≤ 200; omega, by show keep.length ≤ 20; omega⟩
                · exact HF.out i (by omega)
              go_wp2
              go_roundw
              case rel => exact ⟨k + 1, by go_num, by omega, by omega, HN, by first | rfl | trivial⟩
              case measure => simp [intOf]; omega
      · have dm : decide ((k : Int) < (most : Int)) = false := decide_eq_false (by omega)
        have dl : decide ((L : Int) ≤ (most : Int)) = false := decide_eq_false (by omega)
        have hlm : ¬ L ≤ most := by omega
        have dl2 : decide (L ≤ most) = false := decide_eq_false hlm
        go_wp2
        go_ret
        exact ⟨⟨false, rfl, fun h => by cases h⟩, Below.refl _ _⟩
    · have dk : decide ((k : Int) < (L : Int)) = false := decide_eq_false (by omega)
      have hkL : k = L := by omega
      by_cases hlm : L ≤ most
      · have dl : decide ((L : Int) ≤ (most : Int)) = true := decide_eq_true (by omega)
        go_wp2
        go_ret
        exact ⟨⟨true, rfl, fun _ => ⟨hlm, fun i hi => HF.out i (by omega)⟩⟩, Below.refl _ _⟩
      · have dl : decide ((L : Int) ≤ (most : Int)) = false := decide_eq_false (by omega)
        go_wp2
        go_ret
        exact ⟨⟨false, rfl, fun h => by cases h⟩, Below.refl _ _⟩
end Dsk
end Go.Proofs.Ytnbmjbelmcibgaa
