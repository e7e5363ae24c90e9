/- Numbers as bytes, and bytes read as numbers: plain words. -/
import Derived.Test.YtmaddebfoefckaaDoorChecked
import Derived.WalkKit
import Derived.Below
namespace Go.Proofs.YtmaddebfoefckaaDoor
open Go.RowKit
namespace Pen
def bs (l : List UInt8) : ByteArray := ⟨l.toArray⟩
theorem bs_size (l : List UInt8) : (bs l).size = l.length := by unfold bs; simp [ByteArray.size]
theorem bs_toList (l : List UInt8) : (bs l).data.toList = l := rfl
theorem bs_append (a b : List UInt8) : bs a ++ bs b = bs (a ++ b) := by
  apply ByteArray.ext
  simp [bs, ByteArray.data_append]
/-- A word's bytes; so many more than one may come. -/
def wbF : Nat → Nat → List UInt8
  | 0, n => [UInt8.ofNat n]
  | f + 1, n => if n < 128 then [UInt8.ofNat n] else UInt8.ofNat (128 + n % 128) :: wbF f (n / 128)
def wb (n : Nat) : List UInt8 := wbF 9 n
/-- A number's bytes. -/
def uintB (n : Int) : List UInt8 := if n < 0 then [] else wb n.toNat
theorem wbF_len (f n : Nat) : 1 ≤ (wbF f n).length ∧ (wbF f n).length ≤ f + 1 := by
  induction f generalizing n with
  | zero => simp [wbF]
  | succ f ih =>
    rw [wbF]
    split
    · simp
    · have := ih (n / 128)
      simp only [List.length_cons]; omega
theorem uintB_len (n : Int) : (uintB n).length ≤ 10 := by
  unfold uintB wb
  split
  · simp
  · have := wbF_len 9 n.toNat; omega
/-- A word that stands there: what it is, and what is left. -/
def rdF : Nat → Nat → Nat → List UInt8 → Option (Nat × List UInt8)
  | 0, _, _, _ => none
  | _ + 1, _, _, [] => none
  | f + 1, k, n, b :: l => if (b = 0 ∧ 0 < k) ∨ (k = 9 ∧ 1 < b.toNat) then none else if b.toNat < 128 then some (n + b.toNat % 128 * 2 ^ (7 * k), l) else rdF f (k + 1) (n + b.toNat % 128 * 2 ^ (7 * k)) l
def rd (l : List UInt8) : Option (Nat × List UInt8) := rdF 10 0 0 l
/-- A number at most so great, out of what a reader has left; none: it is bad. -/
def uintS (most : Int) : Option (List UInt8) → Int × Option (List UInt8)
  | none => (0, none)
  | some l => match rd l with
    | none => (0, none)
    | some (n, l') => if (9223372036854775807 : Int) < (n : Int) ∨ most < (n : Int) then (0, none) else ((n : Int), some l')
def doneS : Option (List UInt8) → Bool
  | none => false
  | some l => l.isEmpty
theorem rdF_small (f k n : Nat) (l : List UInt8) (r : Nat × List UInt8) (hf : f + k = 10) (hn : n < 2 ^ (7 * k)) (h : rdF f k n l = some r) : r.1 < 2 ^ 64 ∧ r.2.length < l.length := by
  induction f generalizing k n l with
  | zero => cases l <;> simp [rdF] at h
  | succ f ih =>
    cases l with
    | nil => simp [rdF] at h
    | cons b l =>
      rw [rdF] at h
      split at h
      · cases h
      · rename_i hc
        have hb : b.toNat < 256 := b.toNat_lt
        have hk : k ≤ 9 := by omega
        have hmod : b.toNat % 128 ≤ 127 := by omega
        have hstep : n + b.toNat % 128 * 2 ^ (7 * k) < 2 ^ (7 * (k + 1)) := by
          rw [show 7 * (k + 1) = 7 * k + 7 by omega, Nat.pow_add]
          have : b.toNat % 128 * 2 ^ (7 * k) ≤ 127 * 2 ^ (7 * k) := Nat.mul_le_mul_right _ hmod
          omega
        split at h
        · cases h
          refine ⟨?_, by simp⟩
          simp only
          by_cases h9 : k = 9
          · subst h9
            have : b.toNat ≤ 1 := by omega
            have h1 : b.toNat % 128 * 2 ^ (7 * 9) ≤ 1 * 2 ^ (7 * 9) := Nat.mul_le_mul_right _ (by omega)
            omega
          · have h2 : 2 ^ (7 * (k + 1)) ≤ 2 ^ 63 := Nat.pow_le_pow_right (by omega) (by omega)
            omega
        · have := ih (k + 1) _ l (by omega) hstep h
          refine ⟨this.1, by simp only [List.length_cons]; omega⟩
theorem rd_small {l : List UInt8} {r : Nat × List UInt8} (h : rd l = some r) : r.1 < 2 ^ 64 ∧ r.2.length < l.length := rdF_small 10 0 0 l r rfl (by decide) h
end Pen
end Go.Proofs.YtmaddebfoefckaaDoor
