/- Whether a text is a name: the document's walk. -/
import Derived.Test.YtnbmjbelmcibgaaDskN
set_option linter.unusedSimpArgs false
set_option linter.unusedVariables false
namespace Go.Proofs.Ytnbmjbelmcibgaa
open Go.RowKit Go.Great Go.Maps
namespace Dsk
set_option maxRecDepth 100000 in
set_option maxHeartbeats 2000000 in
theorem refName_any (s : ByteArray) (hs : s.size ≤ 1000000000) (w : World) : Calls Try.prog 41 #[.string s] w fun e w' => e = .returned (.bool (isName s.data.toList)) ∧ Below w.heap.size w w' := by
  have HL : Hid (s.data.toList.length = s.size) := by show _ = _; rw [Array.length_toList]; rfl
  have HY : Hid (∀ k, k < s.size → (s.data.toList.take k).all letter = true → letter (s.data.toList.getD k 0) = true → (s.data.toList.take (k + 1)).all letter = true) := fun k hk h1 h2 => all_step (by rw [HL.out]; exact hk) h1 h2
  have HN : Hid (∀ k, k < s.size → letter (s.data.toList.getD k 0) = false → isName s.data.toList = false) := fun k hk h => all_not (by rw [HL.out]; exact hk) h
  have HE : Hid ((s.data.toList.take s.size).all letter = true → isName s.data.toList = (decide ((1 : Int) ≤ (s.size : Int)) && decide ((s.size : Int) ≤ 12))) := fun h => by
    have := all_end (s := s.data.toList) (by rw [HL.out]; exact h)
    rw [HL.out] at this
    exact this
  have H0 : Hid ((s.data.toList.take 0).all letter = true) := rfl
  obtain ⟨NV, hNV⟩ : ∃ N, Hid (isName s.data.toList = N) := ⟨_, rfl⟩
  rw [hNV.out]
  go_enter Try.func41, Try.ntmps41
  go_wp2
  go_loop [3] (fun i => ∃ k : Nat, k ≤ s.size ∧ i = .int .i64 k ∧ Hid ((s.data.toList.take k).all letter = true)) (fun i => s.size - (intOf i).toNat)
  case atStart => exact ⟨0, by omega, rfl, H0⟩
  case round =>
    obtain ⟨k, hk, rfl, HA⟩ := hrel
    by_cases hlt : k < s.size
    · have hcell : s[k] = s.data.toList.getD k 0 := by
        rw [List.getD_eq_getElem?_getD, List.getElem?_eq_getElem (by rw [HL.out]; exact hlt)]
        rfl
      have HY' := Lib.hid (HY.out k hlt HA.out)
      have HN' := Lib.hid (HN.out k hlt)
      have hlt1 : (k : Int) < (s.size : Int) := by omega
      generalize s.data.toList.getD k 0 = b at *
      obtain ⟨B, hB⟩ : ∃ B : Int, Hid ((b.toNat : Int) = B) := ⟨_, rfl⟩
      have hBe : (b.toNat : Int) = B := hB.out
      by_cases h46 : B = 46
      · have d46 : (B != 46) = false := by rw [h46]; rfl
        have HQ := Lib.hid (HY'.out (letter_yes hB.out (Or.inl h46)))
        clear HY' HN'
        go_wp2
        go_round
        case rel => exact ⟨k + 1, by omega, by go_num, HQ⟩
        case measure => simp [intOf]; omega
      · have d46 : (B != 46) = true := bne_iff_ne.2 h46
        by_cases h97 : B < 97
        · have d97 : decide (B < 97) = true := decide_eq_true h97
          have HQ := Lib.hid (HN'.out (letter_no hB.out ⟨h46, Or.inl h97⟩))
          clear HY' HN'
          go_wp2
          go_ret
          exact ⟨by rw [← hNV.out, HQ.out]; rfl, Below.refl _ _⟩
        · have d97 : decide (B < 97) = false := decide_eq_false h97
          by_cases h122 : 122 < B
          · have d122 : decide (122 < B) = true := decide_eq_true h122
            have HQ := Lib.hid (HN'.out (letter_no hB.out ⟨h46, Or.inr h122⟩))
            clear HY' HN'
            go_wp2
            go_ret
            exact ⟨by rw [← hNV.out, HQ.out]; rfl, Below.refl _ _⟩
          · have d122 : decide (122 < B) = false := decide_eq_false h122
            have HQ := Lib.hid (HY'.out (letter_yes hB.out (Or.inr ⟨by omega, by omega⟩)))
            clear HY' HN'
            go_wp2
            go_round
            case rel => exact ⟨k + 1, by omega, by go_num, HQ⟩
            case measure => simp [intOf]; omega
    · have hke : k = s.size := by omega
      rw [hke] at HA
      have HV := Lib.hid (HE.out HA.out)
      have hn1 : ¬ (k : Int) < (s.size : Int) := by omega
      clear hke
      by_cases h1 : (1 : Int) ≤ (s.size : Int)
      · have d1 : decide ((1 : Int) ≤ (s.size : Int)) = true := decide_eq_true h1
        by_cases h12 : (s.size : Int) ≤ 12
        · have d12 : decide ((s.size : Int) ≤ 12) = true := decide_eq_true h12
          rw [d1, d12] at HV
          go_wp2
          go_ret
          exact ⟨by rw [← hNV.out, HV.out]; rfl, Below.refl _ _⟩
        · have d12 : decide ((s.size : Int) ≤ 12) = false := decide_eq_false h12
          rw [d1, d12] at HV
          go_wp2
          go_ret
          exact ⟨by rw [← hNV.out, HV.out]; rfl, Below.refl _ _⟩
      · have d1 : decide ((1 : Int) ≤ (s.size : Int)) = false := decide_eq_false h1
        rw [d1] at HV
        go_wp2
        go_ret
        exact ⟨by rw [← hNV.out, HV.out]; rfl, Below.refl _ _⟩
end Dsk
end Go.Proofs.Ytnbmjbelmcibgaa
