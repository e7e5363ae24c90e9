/- Records, one behind the other: plain laws. -/
import Derived.Test.YtjppoicjbmfhiaaCrcP
namespace Go.Proofs.Ytjppoicjbmfhiaa
namespace Frm
open Crc (sum)
/-- A number as four bytes, the highest first. -/
def b4 (n : Nat) : List UInt8 := [UInt8.ofNat (n / 16777216), UInt8.ofNat (n / 65536), UInt8.ofNat (n / 256), UInt8.ofNat n]
def fits (n : Nat) : Bool := decide (1 ≤ n ∧ n ≤ 4096)
/-- What stands ahead of a record. -/
def hd (l : List UInt8) : List UInt8 := b4 l.length ++ b4 (sum l).toNat
theorem hd_length (l : List UInt8) : (hd l).length = 8 := rfl
def put (l : List UInt8) : List UInt8 := hd l ++ l
theorem put_length (l : List UInt8) : (put l).length = 8 + l.length := by rw [put, List.length_append, hd_length]
/-- Bytes as a number. -/
def num (l : List UInt8) : Nat := l.foldl (fun n b => n * 256 + b.toNat) 0
theorem num_b4 (n : Nat) (h : n < 4294967296) : num (b4 n) = n := by
  simp [num, b4]
  omega
/-- The record with which bytes begin. -/
def first (l : List UInt8) : Option (List UInt8) :=
  if l.length < 8 then none
  else if fits (num (l.take 4)) && decide (num (l.take 4) ≤ l.length - 8) then
    (if hd ((l.drop 8).take (num (l.take 4))) = l.take 8 then some ((l.drop 8).take (num (l.take 4))) else none)
  else none
theorem first_some {l r : List UInt8} (h : first l = some r) : fits r.length = true ∧ ∃ t, l = put r ++ t := by
  unfold first at h
  split at h
  · cases h
  · rename_i h8
    split at h
    · rename_i hn
      split at h
      · rename_i hh
        cases h
        simp only [Bool.and_eq_true, decide_eq_true_eq] at hn
        have hl : ((l.drop 8).take (num (l.take 4))).length = num (l.take 4) := by
          rw [List.length_take, List.length_drop]; omega
        rw [hl]
        refine ⟨hn.1, (l.drop 8).drop (num (l.take 4)), ?_⟩
        rw [put, hh, List.append_assoc, List.take_append_drop, List.take_append_drop]
      · cases h
    · cases h
theorem first_put (r t : List UInt8) (h : fits r.length = true) : first (put r ++ t) = some r := by
  have hb := of_decide_eq_true h
  have h4 : (put r ++ t).take 4 = b4 r.length := by simp [put, hd, b4]
  have h8 : (put r ++ t).take 8 = hd r := by simp [put, hd, b4]
  have hd8 : (put r ++ t).drop 8 = r ++ t := by simp [put, hd, b4]
  have hn : num (b4 r.length) = r.length := num_b4 _ (by omega)
  have hl : (put r ++ t).length = 8 + r.length + t.length := by rw [List.length_append, put_length]
  unfold first
  rw [h4, h8, hd8, hn, hl, if_neg (by omega), h, if_pos (by simp; omega)]
  simp
/-- The records that stand one behind the other, and how many bytes they take. -/
def scanF : Nat → List UInt8 → List (List UInt8) × Nat
  | 0, _ => ([], 0)
  | f + 1, l => match first l with
    | none => ([], 0)
    | some r => (r :: (scanF f (l.drop (8 + r.length))).1, 8 + r.length + (scanF f (l.drop (8 + r.length))).2)
def scan (l : List UInt8) : List (List UInt8) × Nat := scanF l.length l
theorem first_nil : first [] = none := rfl
theorem scanF_two (k : Nat) : ∀ (f : Nat) (l : List UInt8), l.length ≤ k → l.length ≤ f → scanF k l = scanF f l := by
  induction k with
  | zero =>
    intro f l hk _
    have : l = [] := List.length_eq_zero_iff.1 (by omega)
    subst this
    cases f <;> rfl
  | succ k ih =>
    intro f l hk hf
    cases f with
    | zero =>
      have : l = [] := List.length_eq_zero_iff.1 (by omega)
      subst this
      rfl
    | succ f =>
      rw [scanF, scanF]
      cases hl : first l with
      | none => rfl
      | some r =>
        obtain ⟨_, t, rfl⟩ := first_some hl
        have h8 := put_length r
        rw [List.length_append] at hk hf
        have e := ih f ((put r ++ t).drop (8 + r.length)) (by rw [List.length_drop, List.length_append]; omega) (by rw [List.length_drop, List.length_append]; omega)
        simp only [e]
theorem scan_none {l : List UInt8} (h : first l = none) : scan l = ([], 0) := by
  unfold scan
  cases hl : l.length with
  | zero => rfl
  | succ n => rw [scanF, h]
theorem scan_put (r t : List UInt8) (h : fits r.length = true) : scan (put r ++ t) = (r :: (scan t).1, 8 + r.length + (scan t).2) := by
  have hd : (put r ++ t).drop (8 + r.length) = t := by rw [← put_length, List.drop_left]
  have hl : (put r ++ t).length = (7 + r.length + t.length) + 1 := by rw [List.length_append, put_length]; omega
  unfold scan
  rw [hl, scanF, first_put r t h]
  simp only [hd]
  rw [scanF_two (7 + r.length + t.length) t.length t (by omega) (by omega)]
theorem scan_some {l r : List UInt8} (h : first l = some r) : scan l = (r :: (scan (l.drop (8 + r.length))).1, 8 + r.length + (scan (l.drop (8 + r.length))).2) ∧ 8 + r.length ≤ l.length ∧ r = (l.drop 8).take r.length := by
  obtain ⟨hf, t, rfl⟩ := first_some h
  have hd : (put r ++ t).drop (8 + r.length) = t := by rw [← put_length, List.drop_left]
  refine ⟨by rw [scan_put r t hf, hd], by rw [List.length_append, put_length]; omega, ?_⟩
  simp [put, b4, Frm.hd]
/-- Records' bytes, one behind the other. -/
def cats (l : List ByteArray) : List UInt8 := l.flatMap fun s => put s.data.toList
theorem cats_cons (s : ByteArray) (l : List ByteArray) : cats (s :: l) = put s.data.toList ++ cats l := rfl
theorem cats_append (l m : List ByteArray) : cats (l ++ m) = cats l ++ cats m := by simp [cats]
def ok (s : ByteArray) : Bool := fits s.size
theorem scan_cats (l : List ByteArray) (h : ∀ s ∈ l, ok s = true) (t : List UInt8) : scan (cats l ++ t) = (l.map (fun s => s.data.toList) ++ (scan t).1, (cats l).length + (scan t).2) := by
  induction l with
  | nil => simp [cats]
  | cons s l ih =>
    rw [cats_cons, List.append_assoc, scan_put _ _ (by have := h s (by simp); simpa [ok] using this), ih (fun x hx => h x (by simp [hx]))]
    simp only [List.map_cons, List.cons_append, List.length_append, put_length, Nat.add_assoc]
/-- A strict beginning of a record's bytes is none. -/
theorem first_cut (r : List UInt8) (m : Nat) (h : fits r.length = true) (hm : m < 8 + r.length) : first ((put r).take m) = none := by
  have hb := of_decide_eq_true h
  have hl : ((put r).take m).length = m := by rw [List.length_take, put_length]; omega
  unfold first
  by_cases h8 : m < 8
  · rw [if_pos (by rw [hl]; exact h8)]
  · have h4 : ((put r).take m).take 4 = b4 r.length := by
      rw [List.take_take, Nat.min_eq_left (by omega)]; simp [put, hd, b4]
    have hn : num (b4 r.length) = r.length := num_b4 _ (by omega)
    rw [if_neg (by rw [hl]; exact h8), h4, hn, hl, if_neg]
    simp
    omega
theorem first_short {l : List UInt8} (h : l.length ≤ 8) : first l = none := by
  unfold first
  split
  · rfl
  · rw [if_neg]
    simp only [Bool.and_eq_true, decide_eq_true_eq, not_and]
    intro hf
    have := (of_decide_eq_true hf).1
    omega
end Frm
end Go.Proofs.Ytjppoicjbmfhiaa
