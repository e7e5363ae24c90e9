/- Whether a text is a name: the walks. -/
import Derived.Test.YtnbmjbelmcibgaaDskR
import Derived.Lib.ConvBytes
set_option linter.unusedSimpArgs false
set_option linter.unusedVariables false
namespace Go.Proofs.Ytnbmjbelmcibgaa
open Go.RowKit Go.Great Go.Maps
namespace Dsk
theorem letter_yes {b : UInt8} {B : Int} (hB : (b.toNat : Int) = B) (h : B = 46 ∨ (97 ≤ B ∧ B ≤ 122)) : letter b = true := by
  unfold letter
  rcases h with h | h
  · have : b = 46 := by
      apply UInt8.toNat_inj.1
      show b.toNat = 46
      omega
    rw [this]
    rfl
  · rw [Bool.or_eq_true, Bool.and_eq_true, decide_eq_true_eq, decide_eq_true_eq, decide_eq_true_eq]
    exact Or.inr ⟨by omega, by omega⟩
theorem letter_no {b : UInt8} {B : Int} (hB : (b.toNat : Int) = B) (h : B ≠ 46 ∧ (B < 97 ∨ 122 < B)) : letter b = false := by
  cases hl : letter b with
  | false => rfl
  | true =>
    unfold letter at hl
    rw [Bool.or_eq_true, Bool.and_eq_true, decide_eq_true_eq, decide_eq_true_eq, decide_eq_true_eq] at hl
    rcases hl with e | e
    · exact absurd (by rw [← hB, e]; rfl) h.1
    · omega
theorem all_step {s : List UInt8} {k : Nat} (hk : k < s.length) (h : (s.take k).all letter = true) (hl : letter (s.getD k 0) = true) : (s.take (k + 1)).all letter = true := by
  rw [List.take_add_one, List.all_append, h, List.getElem?_eq_getElem hk]
  rw [List.getD_eq_getElem?_getD, List.getElem?_eq_getElem hk] at hl
  simpa using hl
theorem all_not {s : List UInt8} {k : Nat} (hk : k < s.length) (hl : letter (s.getD k 0) = false) : isName s = false := by
  have h : s.all letter = false := by
    rw [List.all_eq_false]
    refine ⟨s[k], List.getElem_mem hk, ?_⟩
    rw [List.getD_eq_getElem?_getD, List.getElem?_eq_getElem hk] at hl
    simpa using hl
  unfold isName
  rw [h]
  rfl
theorem all_end {s : List UInt8} (h : (s.take s.length).all letter = true) : isName s = (decide ((1 : Int) ≤ (s.length : Int)) && decide ((s.length : Int) ≤ 12)) := by
  rw [List.take_length] at h
  unfold isName
  rw [h, Bool.true_and]
  congr 1
  · exact decide_eq_decide.2 ⟨fun h => by omega, fun h => by omega⟩
  · exact decide_eq_decide.2 ⟨fun h => by omega, fun h => by omega⟩
theorem bytesWorld_below (w : World) (e : TypeId) (s : ByteArray) : Below w.heap.size w (Lib.bytesWorld w e s) :=
  ⟨rfl, rfl, rfl, by rw [Lib.bytesWorld_size]; omega, fun k hk => Lib.bytesWorld_at_old w e s k hk⟩
set_option maxRecDepth 100000 in
set_option maxHeartbeats 2000000 in
theorem name_any (s : ByteArray) (hs : s.size ≤ 1000000000) (w : World) : Calls Try.prog 27 #[.string s] w fun e w' => e = .returned (.bool (isName s.data.toList)) ∧ Below w.heap.size w w' := by
  have hconv := fun w => Lib.run_convert_string_bytes (P := Try.prog) w 9 75 5 s Try.underlying9 Try.underlying75 Try.underlying5
  have HL : Hid (s.data.toList.length = s.size) := by show _ = _; rw [Array.length_toList]; rfl
  have HY : Hid (∀ k, k < s.size → (s.data.toList.take k).all letter = true → letter (s.data.toList.getD k 0) = true → (s.data.toList.take (k + 1)).all letter = true) := fun k hk h1 h2 => all_step (by rw [HL.out]; exact hk) h1 h2
  have HN : Hid (∀ k, k < s.size → letter (s.data.toList.getD k 0) = false → isName s.data.toList = false) := fun k hk h => all_not (by rw [HL.out]; exact hk) h
  have HE : Hid ((s.data.toList.take s.size).all letter = true → isName s.data.toList = (decide ((1 : Int) ≤ (s.size : Int)) && decide ((s.size : Int) ≤ 12))) := fun h => by
    have := all_end (s := s.data.toList) (by rw [HL.out]; exact h)
    rw [HL.out] at this
    exact this
  have H0 : Hid ((s.data.toList.take 0).all letter = true) := rfl
  obtain ⟨NV, hNV⟩ : ∃ N, Hid (isName s.data.toList = N) := ⟨_, rfl⟩
  rw [hNV.out]
  go_enter Try.func27, Try.ntmps27
  go_wp2
  go_loop [8] (fun i => ∃ k : Nat, k ≤ s.size ∧ i = .int .i64 k ∧ Hid ((s.data.toList.take k).all letter = true)) (fun i => s.size - (intOf i).toNat)
  case atStart => exact ⟨0, by omega, rfl, H0⟩
  case round =>
    obtain ⟨k, hk, rfl, HA⟩ := hrel
    by_cases hlt : k < s.size
    · have hcell := Lib.bytesWorld_cell w 5 s k hlt
      have HY' := Lib.hid (HY.out k hlt HA.out)
      have HN' := Lib.hid (HN.out k hlt)
      have hlt1 : (k : Int) < (s.size : Int) := by omega
      generalize s.data.toList.getD k 0 = b at *
      obtain ⟨B, hB⟩ : ∃ B : Int, Hid ((b.toNat : Int) = B) := ⟨_, rfl⟩
      rw [hB.out] at hcell
      by_cases h46 : B = 46
      · have d46 : (B != 46) = false := by rw [h46]; rfl
        have HQ := Lib.hid (HY'.out (letter_yes hB.out (Or.inl h46)))
        clear HY' HN'
        go_wp2
        go_round
        case rel => exact ⟨k + 1, by omega, by go_num, HQ⟩
        case measure => simp [intOf]; omega
      · have d46 : (B != 46) = true := bne_iff_ne.2 h46
        by_cases h97 : B < 97
        · have d97 : decide (B < 97) = true := decide_eq_true h97
          have HQ := Lib.hid (HN'.out (letter_no hB.out ⟨h46, Or.inl h97⟩))
          clear HY' HN'
          go_wp2
          go_ret
          exact ⟨by rw [← hNV.out, HQ.out]; rfl, bytesWorld_below _ _ _⟩
        · have d97 : decide (B < 97) = false := decide_eq_false h97
          by_cases h122 : 122 < B
          · have d122 : decide (122 < B) = true := decide_eq_true h122
            have HQ := Lib.hid (HN'.out (letter_no hB.out ⟨h46, Or.inr h122⟩))
            clear HY' HN'
            go_wp2
            go_ret
            exact ⟨by rw [← hNV.out, HQ.out]; rfl, bytesWorld_below _ _ _⟩
          · have d122 : decide (122 < B) = false := decide_eq_false h122
            have HQ := Lib.hid (HY'.out (letter_yes hB.out (Or.inr ⟨by omega, by omega⟩)))
            clear HY' HN'
            go_wp2
            go_round
            case rel => exact ⟨k + 1, by omega, by go_num, HQ⟩
            case measure => simp [intOf]; omega
    · have hke : k = s.size := by omega
      rw [hke] at HA
      have HV := Lib.hid (HE.out HA.out)
      have hn1 : ¬ (k : Int) < (s.size : Int) := by omega
      clear hke
      by_cases h1 : (1 : Int) ≤ (s.size : Int)
      · have d1 : decide ((1 : Int) ≤ (s.size : Int)) = true := decide_eq_true h1
        by_cases h12 : (s.size : Int) ≤ 12
        · have d12 : decide ((s.size : Int) ≤ 12) = true := decide_eq_true h12
          rw [d1, d12] at HV
          go_wp2
          go_ret
          exact ⟨by rw [← hNV.out, HV.out]; rfl, bytesWorld_below _ _ _⟩
        · have d12 : decide ((s.size : Int) ≤ 12) = false := decide_eq_false h12
          rw [d1, d12] at HV
          go_wp2
          go_ret
          exact ⟨by rw [← hNV.out, HV.out]; rfl, bytesWorld_below _ _ _⟩
      · have d1 : decide ((1 : Int) ≤ (s.size : Int)) = false := decide_eq_false h1
        rw [d1] at HV
        go_wp2
        go_ret
        exact ⟨by rw [← hNV.out, HV.out]; rfl, bytesWorld_below _ _ _⟩
end Dsk
end Go.Proofs.Ytnbmjbelmcibgaa
