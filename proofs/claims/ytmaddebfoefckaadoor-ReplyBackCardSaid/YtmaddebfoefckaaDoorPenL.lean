/- Numbers as bytes, and bytes read as numbers: there and back. -/
import Derived.Test.YtmaddebfoefckaaDoorPenP
namespace Go.Proofs.YtmaddebfoefckaaDoor
open Go.RowKit
namespace Pen
theorem rdF_wbF (f : Nat) : ∀ (k a n : Nat) (l : List UInt8), f + k = 9 → n < 2 ^ (7 * f + 1) → (0 < k → 0 < n) → rdF (f + 1) k a (wbF f n ++ l) = some (a + n * 2 ^ (7 * k), l) := by
  induction f with
  | zero =>
    intro k a n l hk hn h0
    have hk9 : k = 9 := by omega
    subst hk9
    have hn1 : n = 1 := by have := h0 (by omega); simp at hn; omega
    subst hn1
    show rdF 1 9 a (UInt8.ofNat 1 :: l) = _
    rw [rdF, if_neg (by decide), if_pos (by decide)]
    rfl
  | succ f ih =>
    intro k a n l hk hn h0
    rw [wbF]
    by_cases hc : n < 128
    · rw [if_pos hc]
      have hb : (UInt8.ofNat n).toNat = n := by rw [UInt8.toNat_ofNat']; omega
      show rdF (f + 2) k a (UInt8.ofNat n :: l) = _
      rw [rdF, if_neg (fun h => by
        rcases h with ⟨h1, h2⟩ | ⟨h1, _⟩
        · have := h0 h2
          have h3 := congrArg UInt8.toNat h1
          rw [hb] at h3
          change n = 0 at h3
          omega
        · omega), if_pos (by rw [hb]; exact hc), hb, Nat.mod_eq_of_lt hc]
    · rw [if_neg hc]
      have hb : (UInt8.ofNat (128 + n % 128)).toNat = 128 + n % 128 := by rw [UInt8.toNat_ofNat']; omega
      show rdF (f + 2) k a (UInt8.ofNat (128 + n % 128) :: (wbF f (n / 128) ++ l)) = _
      have hpow : 2 ^ (7 * (f + 1) + 1) = 2 ^ (7 * f + 1) * 128 := by rw [show 7 * (f + 1) + 1 = 7 * f + 1 + 7 by omega, Nat.pow_add]
      rw [rdF, if_neg (fun h => by
        rcases h with ⟨h1, h2⟩ | ⟨h1, _⟩
        · have h3 := congrArg UInt8.toNat h1
          rw [hb] at h3
          change 128 + n % 128 = 0 at h3
          omega
        · omega), if_neg (by rw [hb]; omega), ih (k + 1) _ (n / 128) l (by omega) (by rw [hpow] at hn; exact Nat.div_lt_of_lt_mul (by rw [Nat.mul_comm]; exact hn)) (fun _ => by omega), hb]
      have hp2 : 2 ^ (7 * (k + 1)) = 128 * 2 ^ (7 * k) := by rw [show 7 * (k + 1) = 7 + 7 * k by omega, Nat.pow_add]
      have e1 : (128 + n % 128) % 128 = n % 128 := by omega
      rw [e1, hp2]
      have e2 : n * 2 ^ (7 * k) = (n % 128 + n / 128 * 128) * 2 ^ (7 * k) := by rw [Nat.mod_add_div' n 128]
      rw [e2, Nat.add_mul, Nat.mul_assoc (n / 128), Nat.add_assoc]
theorem rd_wb (n : Nat) (hn : n < 2 ^ 64) (l : List UInt8) : rd (wb n ++ l) = some (n, l) := by
  have := rdF_wbF 9 0 0 n l rfl hn (fun h => by omega)
  rw [Nat.mul_zero, Nat.pow_zero, Nat.mul_one, Nat.zero_add] at this
  exact this
theorem rdF_back (f : Nat) : ∀ (k a : Nat) (l : List UInt8) (m : Nat) (l' : List UInt8), f + k = 9 → rdF (f + 1) k a l = some (m, l') → ∃ n, m = a + n * 2 ^ (7 * k) ∧ l = wbF f n ++ l' ∧ (0 < k → 0 < n) := by
  induction f with
  | zero =>
    intro k a l m l' hk h
    have hk9 : k = 9 := by omega
    subst hk9
    cases l with
    | nil => cases h
    | cons b l =>
      rw [rdF] at h
      split at h
      · cases h
      · rename_i hc
        have hb0 : b ≠ 0 := fun e => hc (.inl ⟨e, by omega⟩)
        have hb1 : ¬ 1 < b.toNat := fun e => hc (.inr ⟨rfl, e⟩)
        have hbn : b.toNat ≠ 0 := fun e => hb0 (UInt8.toNat_inj.1 e)
        have hb : b.toNat = 1 := by omega
        have hbe : b = 1 := UInt8.toNat_inj.1 hb
        subst hbe
        rw [if_pos (by decide)] at h
        cases h
        exact ⟨1, rfl, rfl, fun _ => by omega⟩
  | succ f ih =>
    intro k a l m l' hk h
    cases l with
    | nil => cases h
    | cons b l =>
      have hlt := b.toNat_lt
      rw [rdF] at h
      split at h
      · cases h
      · rename_i hc
        split at h
        · rename_i hb
          cases h
          refine ⟨b.toNat, by rw [Nat.mod_eq_of_lt hb], ?_, fun h0 => ?_⟩
          · rw [wbF, if_pos hb]
            show _ = UInt8.ofNat b.toNat :: l'
            rw [UInt8.ofNat_toNat]
          · have : b.toNat ≠ 0 := fun e => hc (.inl ⟨UInt8.toNat_inj.1 e, h0⟩)
            omega
        · rename_i hb
          obtain ⟨n, hm, hl, h0⟩ := ih (k + 1) _ l m l' (by omega) h
          have hn := h0 (by omega)
          refine ⟨b.toNat % 128 + 128 * n, ?_, ?_, fun _ => by omega⟩
          · have hp2 : 2 ^ (7 * (k + 1)) = 128 * 2 ^ (7 * k) := by rw [show 7 * (k + 1) = 7 + 7 * k by omega, Nat.pow_add]
            rw [hm, hp2, Nat.add_mul, Nat.mul_comm 128 n, Nat.mul_assoc, Nat.add_assoc]
          · have e1 : (b.toNat % 128 + 128 * n) % 128 = b.toNat % 128 := by omega
            have e2 : (b.toNat % 128 + 128 * n) / 128 = n := by omega
            rw [wbF, if_neg (by omega), e1, e2, hl]
            have e3 : 128 + b.toNat % 128 = b.toNat := by omega
            rw [e3, UInt8.ofNat_toNat]
            rfl
theorem rd_back {l : List UInt8} {n : Nat} {l' : List UInt8} (h : rd l = some (n, l')) : l = wb n ++ l' := by
  obtain ⟨m, h1, h2, _⟩ := rdF_back 9 0 0 l n l' rfl h
  have : m = n := by rw [h1]; simp
  subst this
  exact h2
theorem uint_put (most n : Int) (h0 : 0 ≤ n) (hm : n ≤ most) (hi : n ≤ 9223372036854775807) (l : List UInt8) : uintS most (some (uintB n ++ l)) = (n, some l) := by
  unfold uintS uintB
  rw [if_neg (by omega)]
  have e : ((n.toNat : Nat) : Int) = n := Int.toNat_of_nonneg h0
  simp only [rd_wb n.toNat (by omega) l]
  rw [if_neg (by omega), e]
theorem uint_back {most : Int} {o : Option (List UInt8)} {l' : List UInt8} (h : (uintS most o).2 = some l') : o = some (uintB (uintS most o).1 ++ l') := by
  cases o with
  | none => cases h
  | some l =>
    cases hr : rd l with
    | none => simp only [uintS, hr] at h; cases h
    | some r =>
      obtain ⟨n, t⟩ := r
      have hb := rd_back hr
      simp only [uintS, hr] at h ⊢
      split at h
      · cases h
      · rename_i hc
        rw [if_neg hc]
        cases h
        show some l = some (uintB (n : Int) ++ l')
        rw [hb]
        unfold uintB
        rw [if_neg (by omega)]
        rfl
theorem uint_none (most : Int) : uintS most none = (0, none) := rfl
theorem uint_bounds (most : Int) (o : Option (List UInt8)) (h : 0 ≤ most) : 0 ≤ (uintS most o).1 ∧ (uintS most o).1 ≤ most ∧ (uintS most o).1 ≤ 9223372036854775807 := by
  unfold uintS
  split
  · simp; exact h
  · split
    · simp; exact h
    · split
      · simp; exact h
      · rename_i hc; simp only; omega
end Pen
end Go.Proofs.YtmaddebfoefckaaDoor
