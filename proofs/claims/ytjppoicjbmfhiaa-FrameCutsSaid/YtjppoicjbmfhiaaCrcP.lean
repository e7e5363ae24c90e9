/- Plain laws on numbers of 32 bits and on sums of bytes: no program in sight. -/
import Derived.WalkKit
import Derived.WalkLawsBesides
namespace Go.Proofs.Ytjppoicjbmfhiaa
/-- A number of 32 bits, as a walk holds it. -/
def U (x : BitVec 32) : Int := x.toNat
namespace Crc
theorem U_lo (x : BitVec 32) : 0 ≤ U x := Int.natCast_nonneg _
theorem U_hi (x : BitVec 32) : U x ≤ 4294967295 := by have := x.isLt; unfold U; omega
theorem U_inj {x y : BitVec 32} : (U x == U y) = (x == y) := by
  unfold U; rw [Bool.eq_iff_iff]; simp [← BitVec.toNat_inj]; omega
theorem U_of (n : Nat) (h : n < 4294967296) : ((n : Nat) : Int) = U (BitVec.ofNat 32 n) := by
  unfold U; simp; omega
theorem U_shr1 (x : BitVec 32) : U x / (2 : Int) = U (x >>> 1) := by
  unfold U; rw [BitVec.toNat_ushiftRight, Nat.shiftRight_eq_div_pow]; omega
theorem U_shr4 (x : BitVec 32) : U x / (16 : Int) = U (x >>> 4) := by
  unfold U; rw [BitVec.toNat_ushiftRight, Nat.shiftRight_eq_div_pow]; omega
theorem bits_U (x : BitVec 32) : BitVec.ofInt 32 (U x) = x := by unfold U; simp
theorem wrapU (x : BitVec 32) : IntKind.u32.wrap (x.toNat : Int) = U x := by
  have := x.isLt; unfold U; rw [IntKind.wrap_u32]; omega
theorem and_U (x y : BitVec 32) : bits .and .u32 (U x) (U y) = U (x &&& y) := by
  show IntKind.u32.wrap ((BitVec.ofInt 32 (U x) &&& BitVec.ofInt 32 (U y)).toNat : Int) = _
  rw [bits_U, bits_U, wrapU]
theorem xor_U (x y : BitVec 32) : bits .xor .u32 (U x) (U y) = U (x ^^^ y) := by
  show IntKind.u32.wrap ((BitVec.ofInt 32 (U x) ^^^ BitVec.ofInt 32 (U y)).toNat : Int) = _
  rw [bits_U, bits_U, wrapU]
theorem and_U1 (x : BitVec 32) : bits .and .u32 (U x) 1 = U (x &&& 1#32) := and_U x 1#32
theorem and_U15 (x : BitVec 32) : bits .and .u32 (U x) 15 = U (x &&& 15#32) := and_U x 15#32
def poly : BitVec 32 := 3988292384#32
theorem and_Up (x : BitVec 32) : bits .and .u32 3988292384 (U x) = U (poly &&& x) := and_U poly x
theorem xor_Up (x : BitVec 32) : bits .xor .u32 (U x) 3988292384 = U (x ^^^ poly) := xor_U x poly
theorem neg_U (x : BitVec 32) : -U x % (4294967296 : Int) = U (-x) := by
  have := x.isLt; unfold U; rw [BitVec.toNat_neg]; omega
theorem not_U (x : BitVec 32) : bits .xor .u32 (U x) 4294967295 = U (~~~x) := by
  have e : (4294967295 : Int) = U (BitVec.allOnes 32) := rfl
  rw [e, xor_U, BitVec.xor_allOnes]
/-- One step: shifted down; the polynomial put on it if the lowest bit was 1. -/
def stp (x : BitVec 32) : BitVec 32 := (x >>> 1) ^^^ (poly &&& -(x &&& 1#32))
def stps : Nat → BitVec 32 → BitVec 32
  | 0, x => x
  | n + 1, x => stps n (stp x)
theorem stps_snoc (n : Nat) (x : BitVec 32) : stps (n + 1) x = stp (stps n x) := by
  induction n generalizing x with
  | zero => rfl
  | succ n ih => rw [stps, ih]; rfl
theorem lsb01 (x : BitVec 32) : x &&& 1#32 = 0#32 ∨ x &&& 1#32 = 1#32 := by
  have h : (x &&& 1#32).toNat = x.toNat % 2 := by rw [BitVec.toNat_and]; exact Nat.and_two_pow_sub_one_eq_mod _ 1
  rcases Nat.mod_two_eq_zero_or_one x.toNat with e | e
  · left; apply BitVec.eq_of_toNat_eq; rw [h, e]; rfl
  · right; apply BitVec.eq_of_toNat_eq; rw [h, e]; rfl
theorem stp_even {x : BitVec 32} (h : (U (x &&& 1#32) == 1) = false) : stp x = x >>> 1 := by
  rcases lsb01 x with e | e
  · rw [stp, e]; simp
  · rw [e] at h; exact absurd h (by decide)
theorem stp_odd {x : BitVec 32} (h : (U (x &&& 1#32) == 1) = true) : stp x = (x >>> 1) ^^^ poly := by
  rcases lsb01 x with e | e
  · rw [e] at h; exact absurd h (by decide)
  · rw [stp, e]; rfl
def nib (k : Nat) : BitVec 32 := stps 4 (BitVec.ofNat 32 k)
/-- n numbers of 32 bits as cells. -/
def arrU (n : Nat) (f : Nat → BitVec 32) : Array Value := ((List.range n).map fun i => Value.int .u32 (U (f i))).toArray
theorem arrU_size (n : Nat) (f : Nat → BitVec 32) : (arrU n f).size = n := by simp [arrU]
theorem arrU_get (n : Nat) (f : Nat → BitVec 32) (i : Nat) (h : i < n) : (arrU n f)[i]? = some (Value.int .u32 (U (f i))) := by
  simp [arrU, h]
theorem arrU_one (n : Nat) (f : Nat → BitVec 32) : (arrU n f).all (·.oneCell') = true := by
  simp [arrU, Value.oneCell']
theorem arrU_ext {n : Nat} {f g : Nat → BitVec 32} (h : ∀ i, i < n → f i = g i) : arrU n f = arrU n g := by
  unfold arrU
  congr 1
  apply List.map_congr_left
  intro i hi
  rw [h i (by simpa using hi)]
theorem arrU_set (n : Nat) (f : Nat → BitVec 32) (k : Nat) (v : BitVec 32) : (arrU n f).setIfInBounds k (.int .u32 (U v)) = arrU n (fun i => if i = k then v else f i) := by
  apply Array.ext'
  apply List.ext_getElem?
  intro i
  by_cases hi : i < n
  · have e1 := arrU_get n f i hi
    have e2 := arrU_get n (fun i => if i = k then v else f i) i hi
    simp only [← Array.getElem?_toList] at e1 e2
    rw [e2, Array.toList_setIfInBounds, List.getElem?_set, e1]
    have := arrU_size n f
    by_cases hk : k = i
    · subst hk; simp [this, hi]
    · rw [if_neg hk, if_neg (fun e => hk e.symm)]
  · rw [List.getElem?_eq_none (by simp [arrU_size]; omega), List.getElem?_eq_none (by simp [arrU_size]; omega)]
/-- Filled as far as k, 0 behind. -/
def upTo (f : Nat → BitVec 32) (k i : Nat) : BitVec 32 := if i < k then f i else 0#32
theorem arrU_fill (n : Nat) (f : Nat → BitVec 32) (k : Nat) : (arrU n (upTo f k)).setIfInBounds k (.int .u32 (U (f k))) = arrU n (upTo f (k + 1)) := by
  rw [arrU_set]
  apply arrU_ext
  intro i _
  by_cases h : i = k
  · subst h; simp [upTo]
  · by_cases h1 : i < k
    · simp [upTo, h, h1, show i < k + 1 by omega]
    · simp [upTo, h, h1, show ¬ i < k + 1 by omega]
theorem arrU_full (n : Nat) (f : Nat → BitVec 32) : arrU n (upTo f n) = arrU n f :=
  arrU_ext fun i h => by simp [upTo, h]
theorem arrU_todo (n : Nat) (f : Nat → BitVec 32) (k : Nat) (h : k < n) : (arrU n (upTo f k))[k]? = some (.int .u32 0) := by
  rw [arrU_get n _ k h]; simp [upTo]; rfl
/-- A byte comes to a number. -/
def byt (n : BitVec 32) (b : UInt8) : BitVec 32 := stps 8 (n ^^^ BitVec.ofNat 32 b.toNat)
def run (n : BitVec 32) (l : List UInt8) : BitVec 32 := l.foldl byt n
def more (sum : BitVec 32) (l : List UInt8) : BitVec 32 := ~~~ run (~~~ sum) l
def sum (l : List UInt8) : BitVec 32 := more 0#32 l
theorem run_snoc (n : BitVec 32) (l : List UInt8) (b : UInt8) : run n (l ++ [b]) = byt (run n l) b := by simp [run]
theorem run_take (n : BitVec 32) (s : ByteArray) (k : Nat) (h : k < s.size) : run n (s.data.toList.take (k + 1)) = byt (run n (s.data.toList.take k)) s[k] := by
  rw [List.take_succ_eq_append_getElem (by simpa using h), run_snoc]; rfl
theorem U_byte (b : UInt8) : ((b.toNat : Nat) : Int) = U (BitVec.ofNat 32 b.toNat) := U_of _ (by have := b.toNat_lt; omega)
theorem not_Um (x : BitVec 32) : bits .xor .u32 IntKind.u32.max (U x) = U (~~~x) := by
  have e : IntKind.u32.max = U (BitVec.allOnes 32) := rfl
  rw [e, xor_U, BitVec.allOnes_xor]
theorem getD_byte (s : ByteArray) (k : Nat) (h : k < s.size) : s.data.toList.getD k 0 = s[k] := by
  have h' : k < s.data.toList.length := by simpa using h
  rw [List.getD_eq_getElem?_getD, List.getElem?_eq_getElem h']
  rfl
theorem U_mod (x : BitVec 32) : U x % (4294967296 : Int) = U x := by have := U_lo x; have := U_hi x; omega
theorem lsb_iff (x : BitVec 32) : x &&& 1#32 = if x.getLsbD 0 then 1#32 else 0#32 := by
  have h : (x &&& 1#32).getLsbD 0 = x.getLsbD 0 := by simp
  rcases lsb01 x with e | e
  · rw [e] at h; rw [← h, e]; rfl
  · rw [e] at h; rw [← h, e]; rfl
theorem stp_eq (x : BitVec 32) : stp x = (x >>> 1) ^^^ (if x.getLsbD 0 then poly else 0#32) := by
  rw [stp, lsb_iff]
  cases x.getLsbD 0 <;> rfl
theorem xor4 (a b c d : BitVec 32) : (a ^^^ b) ^^^ (c ^^^ d) = (a ^^^ c) ^^^ (b ^^^ d) := by
  rw [BitVec.xor_assoc, ← BitVec.xor_assoc b, BitVec.xor_comm b c, BitVec.xor_assoc c, ← BitVec.xor_assoc]
theorem stp_xor (x y : BitVec 32) : stp (x ^^^ y) = stp x ^^^ stp y := by
  rw [stp_eq, stp_eq, stp_eq, BitVec.ushiftRight_xor_distrib, xor4]
  congr 1
  rw [BitVec.getLsbD_xor]
  cases x.getLsbD 0 <;> cases y.getLsbD 0 <;> simp
theorem stps_xor (n : Nat) (x y : BitVec 32) : stps n (x ^^^ y) = stps n x ^^^ stps n y := by
  induction n generalizing x y with
  | zero => rfl
  | succ n ih => rw [stps, stps, stps, stp_xor, ih]
theorem stps_add (a b : Nat) (x : BitVec 32) : stps (a + b) x = stps b (stps a x) := by
  induction a generalizing x with
  | zero => rw [Nat.zero_add]; rfl
  | succ a ih => rw [Nat.add_right_comm, stps, stps, ih]
theorem stp_low {x : BitVec 32} (h : x.getLsbD 0 = false) : stp x = x >>> 1 := by rw [stp_eq, h]; simp
/-- Numbers whose lowest k bits are 0 are only shifted by k steps. -/
theorem stps_low (k : Nat) (x : BitVec 32) (h : ∀ i, i < k → x.getLsbD i = false) : stps k x = x >>> k := by
  induction k generalizing x with
  | zero => rw [stps, BitVec.ushiftRight_zero]
  | succ k ih =>
    rw [stps, stp_low (h 0 (by omega)), ih]
    · rw [← BitVec.shiftRight_add, Nat.add_comm]
    · intro i hi
      rw [BitVec.getLsbD_ushiftRight]
      exact h _ (by omega)
def nibOf (y : BitVec 32) : BitVec 32 := nib (y &&& 15#32).toNat
theorem and15_lt (y : BitVec 32) : (y &&& 15#32).toNat < 16 := by
  rw [BitVec.toNat_and]
  have : (15#32 : BitVec 32).toNat = 2 ^ 4 - 1 := rfl
  rw [this, Nat.and_two_pow_sub_one_eq_mod]
  omega
theorem U_and15 (y : BitVec 32) : 0 ≤ U (y &&& 15#32) ∧ U (y &&& 15#32) ≤ 15 := by have := and15_lt y; unfold U; omega
theorem split15 (y : BitVec 32) : y = (y &&& 15#32) ^^^ (y &&& ~~~ 15#32) := by
  apply BitVec.eq_of_getLsbD_eq
  intro i hi
  simp only [BitVec.getLsbD_xor, BitVec.getLsbD_and, BitVec.getLsbD_not, hi, decide_true, Bool.true_and]
  cases y.getLsbD i <;> cases (15#32).getLsbD i <;> rfl
/-- Four steps by the table. -/
theorem stps_nib (y : BitVec 32) : stps 4 y = nibOf y ^^^ (y >>> 4) := by
  conv => lhs; rw [split15 y, stps_xor]
  congr 1
  · rw [nibOf, nib, BitVec.ofNat_toNat, BitVec.setWidth_eq]
  · rw [stps_low]
    · apply BitVec.eq_of_getLsbD_eq
      intro i hi
      simp only [BitVec.getLsbD_ushiftRight, BitVec.getLsbD_and, BitVec.getLsbD_not]
      by_cases h : 4 + i < 32
      · have : (15#32).getLsbD (4 + i) = false := by
          rw [BitVec.getLsbD_ofNat]
          have : Nat.testBit 15 (4 + i) = false := by
            apply Nat.testBit_lt_two_pow
            exact Nat.lt_of_lt_of_le (by decide : 15 < 2 ^ 4) (Nat.pow_le_pow_right (by decide) (by omega))
          rw [this, Bool.and_false]
        simp only [this, h, decide_true, Bool.not_false, Bool.and_true]
      · simp [BitVec.getLsbD_of_ge y (4 + i) (by omega)]
    · intro i hi
      rw [BitVec.getLsbD_and, BitVec.getLsbD_not]
      match i, hi with
      | 0, _ => simp
      | 1, _ => simp
      | 2, _ => simp
      | 3, _ => simp
theorem stps_nib2 (y : BitVec 32) : stps 8 y = nibOf (nibOf y ^^^ (y >>> 4)) ^^^ ((nibOf y ^^^ (y >>> 4)) >>> 4) := by
  rw [show (8 : Nat) = 4 + 4 from rfl, stps_add, stps_nib y, stps_nib]
theorem U_shr (x : BitVec 32) (k : Nat) : U x / (2 : Int) ^ k = U (x >>> k) := by
  unfold U
  rw [BitVec.toNat_ushiftRight, Nat.shiftRight_eq_div_pow, Int.natCast_ediv, Int.natCast_pow]; rfl
theorem bitTest (n : BitVec 32) (k : Nat) : (bits .and .u32 (U n / (2 : Int) ^ k) 1 == 1) = n.getLsbD k := by
  rw [U_shr, and_U1, lsb_iff, BitVec.getLsbD_ushiftRight, Nat.add_zero]
  cases n.getLsbD k <;> rfl
theorem i64_and1 (n : Int) : bits .and .i64 n 1 = n % 2 := by
  show IntKind.i64.wrap ((BitVec.ofInt 64 n &&& BitVec.ofInt 64 1).toNat : Int) = _
  rw [BitVec.toNat_and, show (BitVec.ofInt 64 1).toNat = 2 ^ 1 - 1 from rfl, Nat.and_two_pow_sub_one_eq_mod, BitVec.toNat_ofInt, IntKind.wrap_i64]
  have h : ((n % ((2 ^ 64 : Nat) : Int)).toNat : Int) = n % ((2 ^ 64 : Nat) : Int) := Int.toNat_of_nonneg (Int.emod_nonneg _ (by decide))
  have h2 : (((n % ((2 ^ 64 : Nat) : Int)).toNat % 2 ^ 1 : Nat) : Int) = n % 2 := by
    rw [Int.natCast_emod, h]
    omega
  rw [h2]
  omega
end Crc
attribute [go_sem] Crc.U_mod Crc.not_Um Crc.U_shr1 Crc.U_shr4 Crc.and_U Crc.xor_U Crc.and_U1 Crc.and_U15 Crc.and_Up Crc.xor_Up Crc.neg_U
end Go.Proofs.Ytjppoicjbmfhiaa
