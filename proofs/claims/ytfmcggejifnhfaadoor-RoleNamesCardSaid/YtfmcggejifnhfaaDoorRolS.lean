/- What is split by commas, letter by letter; the words among the words; the empty and the joined words. -/
import Derived.Test.YtfmcggejifnhfaaDoorRolO
import Derived.Lib.IndexBytes
import Derived.Lib.SplitLaws
namespace Go.Proofs.YtfmcggejifnhfaaDoor
open Go.RowKit
namespace Rol
def splitL : List UInt8 → List (List UInt8)
  | [] => [[]]
  | c :: l => if c = 44 then [] :: splitL l else match splitL l with
    | [] => [[c]]
    | p :: ps => (c :: p) :: ps
theorem splitL_ne (l : List UInt8) : splitL l ≠ [] := by
  cases l with
  | nil => simp [splitL]
  | cons c l =>
    rw [splitL]
    split
    · simp
    · split <;> simp
theorem splitL_comma (wd rest : List UInt8) (h : (44 : UInt8) ∉ wd) : splitL (wd ++ 44 :: rest) = wd :: splitL rest := by
  induction wd with
  | nil => rw [List.nil_append, splitL, if_pos rfl]
  | cons c wd ih =>
    rw [List.cons_append, splitL, if_neg (fun e => h (by rw [e]; exact List.mem_cons_self)), ih (fun hm => h (List.mem_cons_of_mem _ hm))]
theorem splitL_end (wd : List UInt8) (h : (44 : UInt8) ∉ wd) : splitL wd = [wd] := by
  induction wd with
  | nil => rfl
  | cons c wd ih =>
    rw [splitL, if_neg (fun e => h (by rw [e]; exact List.mem_cons_self)), ih (fun hm => h (List.mem_cons_of_mem _ hm))]
theorem splitK_one (l : List UInt8) : Lib.splitK [44] 0 (l.count 44) l = splitL l := by
  induction l with
  | nil => rfl
  | cons c l ih =>
    rw [splitL]
    by_cases hc : c = 44
    · subst hc
      rw [if_pos rfl, List.count_cons_self, Lib.splitK, Lib.index_one]
      have : Lib.indexByte (44 :: l) 44 = 0 := by unfold Lib.indexByte; simp
      rw [this, ← ih]
      rfl
    · rw [if_neg hc, List.count_cons_of_ne (by simpa using hc), ← ih]
      cases hk : l.count 44 with
      | zero => rfl
      | succ k =>
        rw [Lib.splitK, Lib.splitK, Lib.index_one, Lib.index_one]
        have e : Lib.indexByte (c :: l) 44 = if Lib.indexByte l 44 == -1 then -1 else Lib.indexByte l 44 + 1 := by
          conv => lhs; unfold Lib.indexByte
          rw [if_neg (by simpa using hc)]
        have hge := Lib.indexByte_ge l 44
        rw [e]
        by_cases h1 : Lib.indexByte l 44 = -1
        · rw [h1]; rfl
        · have hb : (Lib.indexByte l 44 == -1) = false := beq_eq_false_iff_ne.2 h1
          have hb2 : ((Lib.indexByte l 44 + 1) == -1) = false := beq_eq_false_iff_ne.2 (by omega)
          rw [hb]
          simp only [Bool.false_eq_true, if_false]
          rw [hb2]
          simp only [Bool.false_eq_true, if_false]
          have e2 : (Lib.indexByte l 44 + 1).toNat = (Lib.indexByte l 44).toNat + 1 := by omega
          rw [e2]
          simp
theorem pieces_split (s : ByteArray) : (pieces s).map (·.data.toList) = splitL s.data.toList := by
  unfold pieces
  rw [Lib.splitB_data]
  have : Lib.countB s comma = s.data.toList.count 44 := Lib.count_one 44 s.data.toList
  rw [this]
  exact splitK_one _
theorem bytes_ext {a b : ByteArray} (h : a.data.toList = b.data.toList) : a = b := by
  cases a; cases b
  simp at h
  rw [h]
/-- The last of the first k words that is this one. -/
def fnd (x : ByteArray) : Nat → Int
  | 0 => -1
  | k + 1 => if wds.getD k ByteArray.empty = x then (k : Int) else fnd x k
theorem fnd_find (x : ByteArray) : fnd x 8 = find x := by
  by_cases h : ∃ k, k < 8 ∧ wds.getD k ByteArray.empty = x
  · obtain ⟨k, hk, rfl⟩ := h
    match k, hk with
    | 0, _ => decide +kernel
    | 1, _ => decide +kernel
    | 2, _ => decide +kernel
    | 3, _ => decide +kernel
    | 4, _ => decide +kernel
    | 5, _ => decide +kernel
    | 6, _ => decide +kernel
    | 7, _ => decide +kernel
  · have h2 : ∀ k, k ≤ 8 → fnd x k = -1 := by
      intro k
      induction k with
      | zero => intro _; rfl
      | succ k ih =>
        intro hk
        rw [fnd, if_neg (fun e => h ⟨k, by omega, e⟩)]
        exact ih (by omega)
    rw [h2 8 (Nat.le_refl 8)]
    exact (Lib.idxFromS_miss x wds 0 fun j hj e => h ⟨j, hj, e⟩).symm
def joinB (l : List ByteArray) : ByteArray := ⟨(Lib.join (l.map (·.data.toList)) [44]).toArray⟩
def findLFrom : List (List UInt8) → List UInt8 → Nat → Int
  | [], _, _ => -1
  | z :: zs, x, i => if z = x then (i : Int) else findLFrom zs x (i + 1)
def wdsL : List (List UInt8) := wds.map (·.data.toList)
theorem find_list (x : ByteArray) : find x = findLFrom wdsL x.data.toList 0 := by
  have : ∀ (zs : List ByteArray) (i : Nat), Lib.idxFromS zs x i = findLFrom (zs.map (·.data.toList)) x.data.toList i := by
    intro zs
    induction zs with
    | nil => intro i; rfl
    | cons z zs ih =>
      intro i
      rw [List.map_cons, findLFrom]
      unfold Lib.idxFromS
      by_cases h : z = x
      · subst h; simp
      · rw [if_neg (fun e => h (bytes_ext e)), ← ih (i + 1)]
        simp [h]
  exact this wds 0
def ofLs : List (List UInt8) → Nat → Option Nat
  | [], q => some q
  | x :: r, q => if findLFrom wdsL x 0 < 0 then none else if q.testBit (findLFrom wdsL x 0).toNat then none else ofLs r (q + 2 ^ (findLFrom wdsL x 0).toNat)
theorem ofTo_ls (l : List ByteArray) (k : Nat) (hk : k ≤ l.length) : (match ofTo l k with | none => none | some q => ofLs ((l.drop k).map (·.data.toList)) q) = ofLs (l.map (·.data.toList)) 0 := by
  induction k with
  | zero => rfl
  | succ k ih =>
    rw [← ih (by omega)]
    rw [ofTo]
    cases ofTo l k with
    | none => rfl
    | some q =>
      have hd : l.drop k = l.getD k ByteArray.empty :: l.drop (k + 1) := by
        rw [List.drop_eq_getElem_cons (by omega)]
        simp [List.getD, show k < l.length by omega]
      simp only []
      rw [hd, List.map_cons, ofLs, ← find_list]
      by_cases h1 : find (l.getD k ByteArray.empty) < 0
      · rw [if_pos h1, if_pos h1]
      · rw [if_neg h1, if_neg h1]
        cases h2 : q.testBit (find (l.getD k ByteArray.empty)).toNat
        · simp
        · simp
theorem ofP_ls (l : List ByteArray) : ofP l = match ofLs (l.map (·.data.toList)) 0 with | none => (0, 2) | some r => ((r : Int), 0) := by
  have h := ofTo_ls l l.length (Nat.le_refl _)
  unfold ofP
  rw [← h]
  cases ofTo l l.length with
  | none => rfl
  | some q => simp [ofLs]
def backOk (n : Nat) : Bool := if (namesV n).data.toList = [45] then n == 0 else ofLs (splitL (namesV n).data.toList) 0 == some n
set_option maxRecDepth 100000 in
theorem back_row : (List.range 256).all backOk = true := by decide +kernel
theorem back_all (n : Nat) (h : n < 256) : ofV (namesV n) = ((n : Int), 0) := by
  have hb := List.all_eq_true.1 back_row n (List.mem_range.2 h)
  unfold backOk at hb
  unfold ofV
  by_cases hd : namesV n = dash
  · rw [if_pos hd]
    rw [hd, if_pos (show dash.data.toList = [45] from rfl)] at hb
    rw [beq_iff_eq] at hb
    rw [hb]
    rfl
  · rw [if_neg hd]
    rw [if_neg (show ¬ (namesV n).data.toList = [45] from fun e => hd (bytes_ext e))] at hb
    rw [beq_iff_eq] at hb
    rw [ofP_ls, pieces_split, hb]
end Rol
end Go.Proofs.YtfmcggejifnhfaaDoor
