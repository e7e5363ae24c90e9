/- Texts put together: FrmP, JrP, JrQ, JrS, JrT. -/
import Derived.Test.YteaikleofboknaaM04
import Derived.Test.YteaikleofboknaaM00
set_option linter.all false
section
namespace Go.Proofs.Yteaikleofboknaa
namespace Frm
open Crc (sum)
/-- A number as four bytes, the highest first. -/
def b4 (n : Nat) : List UInt8 := [UInt8.ofNat (n / 16777216), UInt8.ofNat (n / 65536), UInt8.ofNat (n / 256), UInt8.ofNat n]
def fits (n : Nat) : Bool := decide (1 ≤ n ∧ n ≤ 4096)
/-- What stands ahead of a record. -/
def hd (l : List UInt8) : List UInt8 := b4 l.length ++ b4 (sum l).toNat
theorem hd_length (l : List UInt8) : (hd l).length = 8 := rfl
def put (l : List UInt8) : List UInt8 := hd l ++ l
theorem put_length (l : List UInt8) : (put l).length = 8 + l.length := by rw [put, List.length_append, hd_length]
/-- Bytes as a number. -/
def num (l : List UInt8) : Nat := l.foldl (fun n b => n * 256 + b.toNat) 0
theorem num_b4 (n : Nat) (h : n < 4294967296) : num (b4 n) = n := by
  simp [num, b4]
  omega
/-- The record with which bytes begin. -/
def first (l : List UInt8) : Option (List UInt8) :=
  if l.length < 8 then none
  else if fits (num (l.take 4)) && decide (num (l.take 4) ≤ l.length - 8) then
    (if hd ((l.drop 8).take (num (l.take 4))) = l.take 8 then some ((l.drop 8).take (num (l.take 4))) else none)
  else none
theorem first_some {l r : List UInt8} (h : first l = some r) : fits r.length = true ∧ ∃ t, l = put r ++ t := by
  unfold first at h
  split at h
  · cases h
  · rename_i h8
    split at h
    · rename_i hn
      split at h
      · rename_i hh
        cases h
        simp only [Bool.and_eq_true, decide_eq_true_eq] at hn
        have hl : ((l.drop 8).take (num (l.take 4))).length = num (l.take 4) := by
          rw [List.length_take, List.length_drop]; omega
        rw [hl]
        refine ⟨hn.1, (l.drop 8).drop (num (l.take 4)), ?_⟩
        rw [put, hh, List.append_assoc, List.take_append_drop, List.take_append_drop]
      · cases h
    · cases h
theorem first_put (r t : List UInt8) (h : fits r.length = true) : first (put r ++ t) = some r := by
  have hb := of_decide_eq_true h
  have h4 : (put r ++ t).take 4 = b4 r.length := by simp [put, hd, b4]
  have h8 : (put r ++ t).take 8 = hd r := by simp [put, hd, b4]
  have hd8 : (put r ++ t).drop 8 = r ++ t := by simp [put, hd, b4]
  have hn : num (b4 r.length) = r.length := num_b4 _ (by omega)
  have hl : (put r ++ t).length = 8 + r.length + t.length := by rw [List.length_append, put_length]
  unfold first
  rw [h4, h8, hd8, hn, hl, if_neg (by omega), h, if_pos (by simp; omega)]
  simp
/-- The records that stand one behind the other, and how many bytes they take. -/
def scanF : Nat → List UInt8 → List (List UInt8) × Nat
  | 0, _ => ([], 0)
  | f + 1, l => match first l with
    | none => ([], 0)
    | some r => (r :: (scanF f (l.drop (8 + r.length))).1, 8 + r.length + (scanF f (l.drop (8 + r.length))).2)
def scan (l : List UInt8) : List (List UInt8) × Nat := scanF l.length l
theorem first_nil : first [] = none := rfl
theorem scanF_two (k : Nat) : ∀ (f : Nat) (l : List UInt8), l.length ≤ k → l.length ≤ f → scanF k l = scanF f l := by
  induction k with
  | zero =>
    intro f l hk _
    have : l = [] := List.length_eq_zero_iff.1 (by omega)
    subst this
    cases f <;> rfl
  | succ k ih =>
    intro f l hk hf
    cases f with
    | zero =>
      have : l = [] := List.length_eq_zero_iff.1 (by omega)
      subst this
      rfl
    | succ f =>
      rw [scanF, scanF]
      cases hl : first l with
      | none => rfl
      | some r =>
        obtain ⟨_, t, rfl⟩ := first_some hl
        have h8 := put_length r
        rw [List.length_append] at hk hf
        have e := ih f ((put r ++ t).drop (8 + r.length)) (by rw [List.length_drop, List.length_append]; omega) (by rw [List.length_drop, List.length_append]; omega)
        simp only [e]
theorem scan_none {l : List UInt8} (h : first l = none) : scan l = ([], 0) := by
  unfold scan
  cases hl : l.length with
  | zero => rfl
  | succ n => rw [scanF, h]
theorem scan_put (r t : List UInt8) (h : fits r.length = true) : scan (put r ++ t) = (r :: (scan t).1, 8 + r.length + (scan t).2) := by
  have hd : (put r ++ t).drop (8 + r.length) = t := by rw [← put_length, List.drop_left]
  have hl : (put r ++ t).length = (7 + r.length + t.length) + 1 := by rw [List.length_append, put_length]; omega
  unfold scan
  rw [hl, scanF, first_put r t h]
  simp only [hd]
  rw [scanF_two (7 + r.length + t.length) t.length t (by omega) (by omega)]
theorem scan_some {l r : List UInt8} (h : first l = some r) : scan l = (r :: (scan (l.drop (8 + r.length))).1, 8 + r.length + (scan (l.drop (8 + r.length))).2) ∧ 8 + r.length ≤ l.length ∧ r = (l.drop 8).take r.length := by
  obtain ⟨hf, t, rfl⟩ := first_some h
  have hd : (put r ++ t).drop (8 + r.length) = t := by rw [← put_length, List.drop_left]
  refine ⟨by rw [scan_put r t hf, hd], by rw [List.length_append, put_length]; omega, ?_⟩
  simp [put, b4, Frm.hd]
/-- Records' bytes, one behind the other. -/
def cats (l : List ByteArray) : List UInt8 := l.flatMap fun s => put s.data.toList
theorem cats_cons (s : ByteArray) (l : List ByteArray) : cats (s :: l) = put s.data.toList ++ cats l := rfl
theorem cats_append (l m : List ByteArray) : cats (l ++ m) = cats l ++ cats m := by simp [cats]
def ok (s : ByteArray) : Bool := fits s.size
theorem scan_cats (l : List ByteArray) (h : ∀ s ∈ l, ok s = true) (t : List UInt8) : scan (cats l ++ t) = (l.map (fun s => s.data.toList) ++ (scan t).1, (cats l).length + (scan t).2) := by
  induction l with
  | nil => simp [cats]
  | cons s l ih =>
    rw [cats_cons, List.append_assoc, scan_put _ _ (by have := h s (by simp); simpa [ok] using this), ih (fun x hx => h x (by simp [hx]))]
    simp only [List.map_cons, List.cons_append, List.length_append, put_length, Nat.add_assoc]
/-- A strict beginning of a record's bytes is none. -/
theorem first_cut (r : List UInt8) (m : Nat) (h : fits r.length = true) (hm : m < 8 + r.length) : first ((put r).take m) = none := by
  have hb := of_decide_eq_true h
  have hl : ((put r).take m).length = m := by rw [List.length_take, put_length]; omega
  unfold first
  by_cases h8 : m < 8
  · rw [if_pos (by rw [hl]; exact h8)]
  · have h4 : ((put r).take m).take 4 = b4 r.length := by
      rw [List.take_take, Nat.min_eq_left (by omega)]; simp [put, hd, b4]
    have hn : num (b4 r.length) = r.length := num_b4 _ (by omega)
    rw [if_neg (by rw [hl]; exact h8), h4, hn, hl, if_neg]
    simp
    omega
theorem first_short {l : List UInt8} (h : l.length ≤ 8) : first l = none := by
  unfold first
  split
  · rfl
  · rw [if_neg]
    simp only [Bool.and_eq_true, decide_eq_true_eq, not_and]
    intro hf
    have := (of_decide_eq_true hf).1
    omega
end Frm
end Go.Proofs.Yteaikleofboknaa
end
section
namespace Go.Proofs.Yteaikleofboknaa
namespace Jrn
open Frm (put first scan fits num)
/-- A number as eight bytes. -/
def num8 (n : Nat) : List UInt8 := [UInt8.ofNat (n / 72057594037927936), UInt8.ofNat (n / 281474976710656), UInt8.ofNat (n / 1099511627776), UInt8.ofNat (n / 4294967296), UInt8.ofNat (n / 16777216), UInt8.ofNat (n / 65536), UInt8.ofNat (n / 256), UInt8.ofNat n]
theorem num_num8 (n : Nat) (h : n < 18446744073709551616) : num (num8 n) = n := by
  simp [num, num8, UInt8.toNat_ofNat]
  omega
theorem num8_length (n : Nat) : (num8 n).length = 8 := rfl
theorem num8_inj {m n : Nat} (hm : m < 18446744073709551616) (hn : n < 18446744073709551616) (h : num8 m = num8 n) : m = n := by
  rw [← num_num8 m hm, h, num_num8 n hn]
/-- Records, one behind the other. -/
def catsL (l : List (List UInt8)) : List UInt8 := l.flatMap put
theorem catsL_cons (r : List UInt8) (l : List (List UInt8)) : catsL (r :: l) = put r ++ catsL l := rfl
theorem catsL_append (l m : List (List UInt8)) : catsL (l ++ m) = catsL l ++ catsL m := by simp [catsL]
theorem catsL_one (r : List UInt8) : catsL [r] = put r := by simp [catsL]
theorem cats_strs (l : List (List UInt8)) : Frm.cats (l.map fun x => ⟨x.toArray⟩) = catsL l := by
  induction l with
  | nil => rfl
  | cons a l ih => rw [List.map_cons, Frm.cats_cons, ih, catsL_cons]
def fitL (l : List (List UInt8)) : Prop := ∀ r ∈ l, fits r.length = true
theorem scan_catsL : ∀ (l : List (List UInt8)), fitL l → ∀ t : List UInt8, scan (catsL l ++ t) = (l ++ (scan t).1, (catsL l).length + (scan t).2)
  | [], _, t => by simp [catsL]
  | r :: l, h, t => by
    rw [catsL_cons, List.append_assoc, Frm.scan_put r _ (h r (List.mem_cons_self ..)), scan_catsL l (fun x hx => h x (List.mem_cons_of_mem _ hx)) t]
    simp only [List.cons_append, List.length_append, Frm.put_length]
    congr 1
    omega
theorem scan_catsL0 {l : List (List UInt8)} (h : fitL l) : scan (catsL l) = (l, (catsL l).length) := by
  have := scan_catsL l h []
  rw [List.append_nil] at this
  rw [this]
  have e : scan ([] : List UInt8) = ([], 0) := rfl
  rw [e]
  simp
theorem catsL_len {l : List (List UInt8)} (h : fitL l) : (catsL l).length ≤ 4104 * l.length := by
  induction l with
  | nil => simp [catsL]
  | cons r l ih =>
    have := ih fun x hx => h x (List.mem_cons_of_mem _ hx)
    have hr := h r (List.mem_cons_self ..)
    unfold fits at hr
    rw [decide_eq_true_eq] at hr
    rw [catsL_cons, List.length_append, Frm.put_length, List.length_cons]
    omega
/-- A log's head, a snapshot's head. -/
def headL (g : Nat) : List UInt8 := 76 :: num8 g
def headS (g n : Nat) : List UInt8 := 83 :: (num8 g ++ num8 n)
theorem headL_length (g : Nat) : (headL g).length = 9 := rfl
theorem headS_length (g n : Nat) : (headS g n).length = 17 := rfl
theorem headL_fits (g : Nat) : fits (headL g).length = true := by rw [headL_length]; decide
theorem headS_fits (g n : Nat) : fits (headS g n).length = true := by rw [headS_length]; decide
/-- Bytes in parts. -/
def chunks (l : List UInt8) : List (List UInt8) := if h : l = [] then [] else l.take 4096 :: chunks (l.drop 4096)
termination_by l.length
decreasing_by
  have : 0 < l.length := List.length_pos_iff.2 h
  rw [List.length_drop]
  omega
theorem chunks_nil : chunks [] = [] := by rw [chunks]; rfl
theorem chunks_cons {l : List UInt8} (h : l ≠ []) : chunks l = l.take 4096 :: chunks (l.drop 4096) := by
  rw [chunks, dif_neg h]
theorem chunks_all (n : Nat) : ∀ l : List UInt8, l.length ≤ n → fitL (chunks l) ∧ (chunks l).flatten = l ∧ (chunks l).length ≤ l.length ∧ (catsL (chunks l)).length ≤ l.length + 8 * (l.length / 4096 + 1) := by
  induction n with
  | zero =>
    intro l hl
    have : l = [] := List.length_eq_zero_iff.1 (by omega)
    subst this
    rw [chunks_nil]
    exact ⟨fun r hr => (by cases hr), rfl, Nat.le_refl _, (by simp [catsL])⟩
  | succ n ih =>
    intro l hl
    by_cases h : l = []
    · subst h
      rw [chunks_nil]
      exact ⟨fun r hr => (by cases hr), rfl, Nat.le_refl _, (by simp [catsL])⟩
    · have hp : 0 < l.length := List.length_pos_iff.2 h
      obtain ⟨h1, h2, h3, h4⟩ := ih (l.drop 4096) (by rw [List.length_drop]; omega)
      rw [chunks_cons h]
      rw [List.length_drop] at h3 h4
      refine ⟨fun r hr => ?_, ?_, ?_, ?_⟩
      · rcases List.mem_cons.1 hr with rfl | hr
        · unfold fits
          rw [List.length_take, decide_eq_true_eq]
          omega
        · exact h1 r hr
      · rw [List.flatten_cons, h2, List.take_append_drop]
      · rw [List.length_cons]
        omega
      · rw [catsL_cons, List.length_append, Frm.put_length, List.length_take]
        by_cases hb : l.length ≤ 4096
        · have e : l.drop 4096 = [] := List.drop_eq_nil_of_le hb
          rw [e, chunks_nil]
          simp [catsL]
          omega
        · omega
theorem chunks_fit (l : List UInt8) : fitL (chunks l) := (chunks_all l.length l (Nat.le_refl _)).1
theorem chunks_join (l : List UInt8) : (chunks l).flatten = l := (chunks_all l.length l (Nat.le_refl _)).2.1
theorem chunks_len (l : List UInt8) : (chunks l).length ≤ l.length := (chunks_all l.length l (Nat.le_refl _)).2.2.1
/-- A snapshot's file. -/
def fileB (g : Nat) (base : List UInt8) : List UInt8 := catsL (headS g base.length :: chunks base)
theorem fileB_fit (g : Nat) (base : List UInt8) : fitL (headS g base.length :: chunks base) := fun r hr => by
  rcases List.mem_cons.1 hr with rfl | hr
  · exact headS_fits g _
  · exact chunks_fit base r hr
theorem fileB_scan (g : Nat) (base : List UInt8) : scan (fileB g base) = (headS g base.length :: chunks base, (fileB g base).length) := scan_catsL0 (fileB_fit g base)
theorem fileB_len (g : Nat) (base : List UInt8) : 25 ≤ (fileB g base).length ∧ (fileB g base).length ≤ 25 + base.length + 8 * (base.length / 4096 + 1) := by
  have := (chunks_all base.length base (Nat.le_refl _)).2.2.2
  unfold fileB
  rw [catsL_cons, List.length_append, Frm.put_length, headS_length]
  omega
theorem headS_gen (g n : Nat) : ((headS g n).drop 1).take 8 = num8 g := rfl
theorem headL_gen (g : Nat) : (headL g).drop 1 = num8 g := rfl
/-- What a log's bytes tell, for a generation. -/
def LK (g : Nat) (recs : List (List UInt8)) (b : List UInt8) : Prop :=
  (recs = [] ∧ ∃ g' l t, g' < g ∧ b = catsL (headL g' :: l) ++ t ∧ fitL l ∧ first t = none) ∨
  (recs = [] ∧ first b = none) ∨
  (∃ t, b = catsL (headL g :: recs) ++ t ∧ fitL recs ∧ first t = none)
theorem first_nil : first [] = none := rfl
theorem LK.empty (g : Nat) : LK g [] [] := Or.inr (Or.inl ⟨rfl, rfl⟩)
theorem LK.whole (g : Nat) {recs : List (List UInt8)} (h : fitL recs) : LK g recs (catsL (headL g :: recs)) := Or.inr (Or.inr ⟨[], by rw [List.append_nil], h, rfl⟩)
theorem LK.elder {g g' : Nat} {recs : List (List UInt8)} {b : List UInt8} (h : LK g recs b) (hg : g < g') : LK g' [] b := by
  rcases h with ⟨rfl, x, l, t, h1, h2, h3, h4⟩ | ⟨rfl, h⟩ | ⟨t, h1, h2, h3⟩
  · exact Or.inl ⟨rfl, x, l, t, by omega, h2, h3, h4⟩
  · exact Or.inr (Or.inl ⟨rfl, h⟩)
  · exact Or.inl ⟨rfl, g, recs, t, hg, h1, h2, h3⟩
theorem take_behind (a b : List UInt8) (n : Nat) (h : a.length ≤ n) : (a ++ b).take n = a ++ b.take (n - a.length) := by
  rw [List.take_append, List.take_of_length_le h]
/-- A record that is being written behind a log's. -/
theorem LK.write (g : Nat) {recs : List (List UInt8)} (h : fitL recs) (r : List UInt8) (hr : fits r.length = true) (n : Nat) (h1 : (catsL (headL g :: recs)).length ≤ n) :
    LK g recs ((catsL (headL g :: recs) ++ put r).take n) ∨ LK g (recs ++ [r]) ((catsL (headL g :: recs) ++ put r).take n) := by
  rw [take_behind _ _ _ h1]
  by_cases hn : n - (catsL (headL g :: recs)).length < 8 + r.length
  · exact Or.inl (Or.inr (Or.inr ⟨_, rfl, h, Frm.first_cut r _ hr hn⟩))
  · refine Or.inr ?_
    rw [List.take_of_length_le (by rw [Frm.put_length]; omega)]
    have e : catsL (headL g :: recs) ++ put r = catsL (headL g :: (recs ++ [r])) := by
      rw [catsL_cons, catsL_cons, catsL_append, catsL_one, List.append_assoc]
    rw [e]
    exact LK.whole g fun x hx => by
      rcases List.mem_append.1 hx with hx | hx
      · exact h x hx
      · rw [List.mem_singleton.1 hx]; exact hr
/-- A head that is being written. -/
theorem LK.begin' (g n : Nat) : LK g [] ((put (headL g)).take n) := by
  by_cases hn : n < 8 + (headL g).length
  · exact Or.inr (Or.inl ⟨rfl, Frm.first_cut _ _ (headL_fits g) hn⟩)
  · rw [List.take_of_length_le (by rw [Frm.put_length]; omega)]
    have := LK.whole g (recs := []) fun r hr => by cases hr
    rwa [catsL_one] at this
theorem fit_cons {g : Nat} {l : List (List UInt8)} (h : fitL l) : fitL (headL g :: l) := fun r hr => by
  rcases List.mem_cons.1 hr with rfl | hr
  · exact headL_fits g
  · exact h r hr
/-- What Scan tells of a log. -/
theorem LK.told {g : Nat} {recs : List (List UInt8)} {b : List UInt8} (h : LK g recs b) :
    (recs = [] ∧ ∃ g' l u, g' < g ∧ scan b = (headL g' :: l, u)) ∨ (recs = [] ∧ scan b = ([], 0)) ∨
    (fitL recs ∧ ∃ u, scan b = (headL g :: recs, u) ∧ u ≤ b.length ∧ b.take u = catsL (headL g :: recs) ∧ u = (catsL (headL g :: recs)).length) := by
  rcases h with ⟨rfl, x, l, t, h1, h2, h3, h4⟩ | ⟨rfl, h⟩ | ⟨t, h1, h2, h3⟩
  · refine Or.inl ⟨rfl, x, l, (catsL (headL x :: l)).length + 0, h1, ?_⟩
    rw [h2, scan_catsL _ (fit_cons h3), Frm.scan_none h4]
    simp
  · exact Or.inr (Or.inl ⟨rfl, Frm.scan_none h⟩)
  · refine Or.inr (Or.inr ⟨h2, (catsL (headL g :: recs)).length, ?_, ?_, ?_, rfl⟩)
    · rw [h1, scan_catsL _ (fit_cons h2), Frm.scan_none h3]
      simp
    · rw [h1, List.length_append]
      omega
    · rw [h1, List.take_left]
end Jrn
end Go.Proofs.Yteaikleofboknaa
end
section
namespace Go.Proofs.Yteaikleofboknaa
open Go.RowKit
namespace Jrn
open Frm (put first scan fits num)
open Dsk
def logN : List UInt8 := [108, 111, 103]
def snapN : List UInt8 := [115, 110, 97, 112]
def newN : List UInt8 := [115, 110, 97, 112, 46, 110, 101, 119]
theorem isLog : isName logN = true := by decide
theorem isSnap : isName snapN = true := by decide
theorem isNew : isName newN = true := by decide
theorem ne_ls : logN ≠ snapN := by decide
theorem ne_sl : snapN ≠ logN := by decide
theorem ne_ln : logN ≠ newN := by decide
theorem ne_nl : newN ≠ logN := by decide
theorem ne_sn : snapN ≠ newN := by decide
theorem ne_ns : newN ≠ snapN := by decide
/-- What is done, one behind the other. -/
def clearsV (d : DkIn) (s : List UInt8) : Int × DkIn := if (readV d s).2 = 0 then cutV d s 0 else (0, d)
def thenV (r : Int × DkIn) (f : DkIn → Int × DkIn) : Int × DkIn := if r.1 = 0 then f r.2 else r
def beginsV (d : DkIn) (g : Nat) : Int × DkIn := thenV (thenV (clearsV d logN) fun d => appendV d logN (put (headL g))) fun d => syncV d logN
def writeV (d : DkIn) (r : List UInt8) : Int × DkIn := thenV (appendV d logN (put r)) fun d => syncV d logN
def laysV (d : DkIn) (s : List UInt8) : Int × DkIn := thenV (clearsV d newN) fun d =>
  if (appendV d newN s).1 = 4 then (if (clearsV (appendV d newN s).2 newN).1 = 0 then (4, (clearsV (appendV d newN s).2 newN).2) else clearsV (appendV d newN s).2 newN) else appendV d newN s
def beginsD (d : DkIn) (g : Nat) : Int × DkIn := if (beginsV d g).1 = 0 then (0, (beginsV d g).2) else (14, (beginsV d g).2)
def snapV (d : DkIn) (g : Nat) (base : List UInt8) : Int × DkIn :=
  thenV (thenV (thenV (laysV d (fileB (g + 1) base)) fun d => syncV d newN) fun d => renameV d newN snapN) fun d => beginsD d (g + 1)
/-- How many there is of anything: so many operations, so many bytes. -/
structure Gr (d : DkIn) (k B : Nat) : Prop where
  ok : Dok d
  len : d.files.length ≤ k
  ops : d.ops ≤ k
  by' : bytesOf d.files ≤ B
  fits : (bytesOf d.files : Int) ≤ d.room
theorem Gr.mono {d : DkIn} {k k' B B' : Nat} (h : Gr d k B) (hk : k ≤ k') (hB : B ≤ B') : Gr d k' B' := ⟨h.ok, Nat.le_trans h.len hk, by have := h.ops; omega, Nat.le_trans h.by' hB, h.fits⟩
theorem Gr.lens {d : DkIn} {k B : Nat} (h : Gr d k B) : (∀ f ∈ d.files, f.by'.length ≤ 16777216) ∧ bytesOf d.files ≤ 16777216 := by
  have h1 := h.fits
  have h2 := h.ok.room
  refine ⟨fun f hf => ?_, by omega⟩
  have := bytes_mem hf
  omega
theorem gr_op {d : DkIn} {k B : Nat} (h : Gr d k B) (hk : k ≤ 100000000) {l : List FileIn} {B' : Nat} (hf : Fok l) (hl : l.length ≤ k + 1) (hb : bytesOf l ≤ B') (hr : (bytesOf l : Int) ≤ d.room) : Gr { (opV d).2.2 with files := l } (k + 1) B' := by
  have ho := h.ok.op (by have := h.ops; omega)
  refine ⟨⟨hf, ho.room, ho.ops, ho.last⟩, hl, ?_, hb, ?_⟩
  · show (opV d).2.2.ops ≤ _
    rw [op_ops]
    have := h.ops
    omega
  · show (bytesOf l : Int) ≤ (opV d).2.2.room
    rw [op_room]
    exact hr
theorem gr_op0 {d : DkIn} {k B : Nat} (h : Gr d k B) (hk : k ≤ 100000000) : Gr (opV d).2.2 (k + 1) B := by
  have := gr_op h hk h.ok.fok (by have := h.len; omega) h.by' h.fits
  have e : ({ (opV d).2.2 with files := d.files } : DkIn) = (opV d).2.2 := by rw [← op_files d]
  rwa [e] at this
theorem gr_append {d : DkIn} {k B : Nat} (h : Gr d k B) (hk : k ≤ 100000000) (s b : List UInt8) : Gr (appendV d s b).2 (k + 1) (B + b.length) := by
  have hF := append_fok h.ok.fok s b
  unfold appendV at hF ⊢
  split
  · exact h.mono (by omega) (by omega)
  · split
    · exact h.mono (by omega) (by omega)
    · split
      · exact h.mono (by omega) (by omega)
      · rename_i h1 h2 h3
        rw [if_neg h1, if_neg h2, if_neg h3] at hF
        dsimp only at hF ⊢
        have hu : usedV d = (bytesOf d.files : Int) := by unfold usedV; rw [if_neg h1]
        rw [hu] at h3
        have e : ∀ l : List FileIn, (opV { d with files := l }).2.2 = { (opV d).2.2 with files := l } := fun l => by
          unfold opV
          dsimp only
          split
          · rfl
          · split <;> rfl
        rw [e] at hF ⊢
        obtain ⟨p1, p2⟩ := bytes_put ⟨s, ((find s d.files).getD ⟨s, [], 0⟩).by' ++ b, ((find s d.files).getD ⟨s, [], 0⟩).sure⟩ d.files
        have hl := h.len
        have hby := h.by'
        dsimp only at p1 p2
        rw [List.length_append] at p1
        cases hf : find s d.files with
        | none =>
          rw [hf] at hF p1 p2
          have hd := bytes_del s d.files
          have p1' : bytesOf (putF ⟨s, ((none : Option FileIn).getD ⟨s, [], 0⟩).by' ++ b, ((none : Option FileIn).getD ⟨s, [], 0⟩).sure⟩ d.files) = 0 + b.length + bytesOf (del s d.files) := p1
          refine gr_op h hk hF (by omega) ?_ ?_
          · rw [p1']
            omega
          · rw [p1']
            omega
        | some f =>
          rw [hf] at hF p1 p2
          have hd := bytes_found hf
          have p1' : bytesOf (putF ⟨s, ((some f).getD ⟨s, [], 0⟩).by' ++ b, ((some f).getD ⟨s, [], 0⟩).sure⟩ d.files) = f.by'.length + b.length + bytesOf (del s d.files) := p1
          refine gr_op h hk hF (by omega) ?_ ?_
          · rw [p1']
            omega
          · rw [p1']
            omega
theorem gr_sync {d : DkIn} {k B : Nat} (h : Gr d k B) (hk : k ≤ 100000000) (s : List UInt8) : Gr (syncV d s).2 (k + 1) B := by
  have hF := (sync_keeps h.ok.fok s (m := s ++ [0]) (fun e => by have := congrArg List.length e; simp at this)).1
  unfold syncV at hF ⊢
  split
  · exact h.mono (by omega) (by omega)
  · rename_i h1
    rw [if_neg h1] at hF
    cases hf : find s d.files with
    | none => exact h.mono (by omega) (by omega)
    | some f =>
      rw [hf] at hF
      dsimp only at hF ⊢
      split
      · rename_i h2
        rw [if_pos h2] at hF
        rw [op_files] at hF ⊢
        obtain ⟨p1, p2⟩ := bytes_put ⟨s, f.by', f.by'.length⟩ d.files
        have hd := bytes_found hf
        have hl := h.len
        have hby := h.by'
        have hfi := h.fits
        dsimp only at p1 p2
        exact gr_op h hk hF (by omega) (by omega) (by omega)
      · exact gr_op0 h hk
theorem gr_cut {d : DkIn} {k B : Nat} (h : Gr d k B) (hk : k ≤ 100000000) (s : List UInt8) (z : Int) : Gr (cutV d s z).2 (k + 1) B := by
  have hF := (cut_keeps h.ok.fok s z (m := s ++ [0]) (fun e => by have := congrArg List.length e; simp at this)).1
  unfold cutV at hF ⊢
  split
  · exact h.mono (by omega) (by omega)
  · rename_i h1
    rw [if_neg h1] at hF
    cases hf : find s d.files with
    | none => exact h.mono (by omega) (by omega)
    | some f =>
      rw [hf] at hF
      dsimp only at hF ⊢
      split
      · exact h.mono (by omega) (by omega)
      · rename_i h3
        rw [if_neg h3] at hF
        dsimp only at hF ⊢
        split
        · rename_i h2
          rw [if_pos h2] at hF
          rw [op_files] at hF ⊢
          obtain ⟨p1, p2⟩ := bytes_put ⟨s, f.by'.take z.toNat, min f.sure z.toNat⟩ d.files
          have hd := bytes_found hf
          have hl := h.len
          have hby := h.by'
          have hfi := h.fits
          dsimp only at p1 p2
          rw [List.length_take] at p1
          exact gr_op h hk hF (by omega) (by omega) (by omega)
        · exact gr_op0 h hk
theorem gr_rename {d : DkIn} {k B : Nat} (h : Gr d k B) (hk : k ≤ 100000000) (s t : List UInt8) : Gr (renameV d s t).2 (k + 1) B := by
  have hF := (rename_keeps h.ok.fok s t (m := s ++ t ++ [0]) (fun e => by have := congrArg List.length e; simp at this; try omega) (fun e => by have := congrArg List.length e; simp at this; try omega)).1
  unfold renameV at hF ⊢
  split
  · exact h.mono (by omega) (by omega)
  · rename_i h1
    rw [if_neg h1] at hF
    split
    · exact h.mono (by omega) (by omega)
    · rename_i h3
      rw [if_neg h3] at hF
      cases hf : find s d.files with
      | none => exact h.mono (by omega) (by omega)
      | some f =>
        rw [hf] at hF
        dsimp only at hF ⊢
        split
        · rename_i h2
          rw [if_pos h2] at hF
          rw [op_files] at hF ⊢
          obtain ⟨p1, p2⟩ := bytes_put { f with nm := t } (del s d.files)
          have hd := bytes_found hf
          have hd2 := bytes_del t (del s d.files)
          have hl := h.len
          have hby := h.by'
          have hfi := h.fits
          dsimp only at p1 p2
          exact gr_op h hk hF (by omega) (by omega) (by omega)
        · exact gr_op0 h hk
theorem gr_clears {d : DkIn} {k B : Nat} (h : Gr d k B) (hk : k ≤ 100000000) (s : List UInt8) : Gr (clearsV d s).2 (k + 1) B := by
  unfold clearsV
  split
  · exact gr_cut h hk s 0
  · exact h.mono (by omega) (by omega)
theorem gr_then {r : Int × DkIn} {f : DkIn → Int × DkIn} {k B k' B' : Nat} (h : Gr r.2 k B) (hk : k ≤ k') (hB : B ≤ B') (hf : Gr r.2 k B → Gr (f r.2).2 k' B') : Gr (thenV r f).2 k' B' := by
  unfold thenV
  split
  · exact hf h
  · exact h.mono hk hB
theorem headP_length (g : Nat) : (put (headL g)).length = 17 := by rw [Frm.put_length, headL_length]
theorem gr_begins {d : DkIn} {k B : Nat} (h : Gr d k B) (hk : k ≤ 10000000) (g : Nat) : Gr (beginsV d g).2 (k + 3) (B + 17) := by
  unfold beginsV
  refine gr_then (k := k + 2) (B := B + 17) (gr_then (k := k + 1) (B := B) (gr_clears h (by omega) _) (by omega) (by omega) fun h => ?_) (by omega) (by omega) fun h => gr_sync h (by omega) _
  have := gr_append h (by omega) logN (put (headL g))
  rw [headP_length] at this
  exact this
theorem gr_write {d : DkIn} {k B : Nat} (h : Gr d k B) (hk : k ≤ 10000000) (r : List UInt8) : Gr (writeV d r).2 (k + 2) (B + (8 + r.length)) := by
  unfold writeV
  have := gr_append h (by omega) logN (put r)
  rw [Frm.put_length] at this
  exact gr_then this (by omega) (by omega) fun h => gr_sync h (by omega) _
theorem gr_lays {d : DkIn} {k B : Nat} (h : Gr d k B) (hk : k ≤ 10000000) (s : List UInt8) : Gr (laysV d s).2 (k + 3) (B + s.length) := by
  unfold laysV
  refine gr_then (gr_clears h (by omega) _) (by omega) (by omega) fun h => ?_
  have ha := gr_append h (by omega) newN s
  split
  · have hc := gr_clears ha (by omega) newN
    split
    · exact hc
    · exact hc
  · exact ha.mono (by omega) (by omega)
theorem gr_beginsD {d : DkIn} {k B : Nat} (h : Gr d k B) (hk : k ≤ 10000000) (g : Nat) : Gr (beginsD d g).2 (k + 3) (B + 17) := by
  have := gr_begins h hk g
  unfold beginsD
  split
  · exact this
  · exact this
theorem gr_snap {d : DkIn} {k B : Nat} (h : Gr d k B) (hk : k ≤ 1000000) (g : Nat) (base : List UInt8) : Gr (snapV d g base).2 (k + 8) (B + (fileB (g + 1) base).length + 17) := by
  unfold snapV
  refine gr_then (k := k + 5) (B := B + (fileB (g + 1) base).length) (gr_then (k := k + 4) (B := B + (fileB (g + 1) base).length) (gr_then (gr_lays h (by omega) _) (by omega) (by omega) fun h => gr_sync h (by omega) _) (by omega) (by omega) fun h => gr_rename h (by omega) _ _) (by omega) (by omega) fun h => gr_beginsD h (by omega) _
theorem gr_crash {d : DkIn} {k B : Nat} (h : Gr d k B) (keep : List Int) : Gr (crashV d keep) k B := by
  have hb := bytes_crash keep d.files 0
  refine ⟨⟨h.ok.fok.crash keep, h.ok.room, h.ok.ops, ?_⟩, Nat.le_trans (crash_len keep d.files 0) h.len, h.ops, Nat.le_trans hb h.by', ?_⟩
  · show (0 : Int) ≤ 0 ∧ (0 : Int) ≤ _
    omega
  · have := h.fits
    show ((bytesOf (crashF keep 0 d.files) : Nat) : Int) ≤ d.room
    omega
theorem gr_fuse {d : DkIn} {k B : Nat} (h : Gr d k B) (z : Int) (b : Bool) (hz : z ≤ 9223372036854775807) : Gr (fuseV d z b) k B := by
  refine ⟨⟨h.ok.fok, h.ok.room, h.ok.ops, ?_⟩, h.len, h.ops, h.by', h.fits⟩
  unfold fuseV
  dsimp only
  split <;> omega
theorem gr_new {z : Int} (h : 0 ≤ z ∧ z ≤ 16777216) : Gr (newD z) 0 0 := ⟨⟨⟨List.Pairwise.nil, fun f hf => (by cases hf), fun f hf => (by cases hf)⟩, h, ⟨Int.le_refl _, by show (0 : Int) ≤ _; decide⟩, ⟨Int.le_refl _, by show (0 : Int) ≤ _; decide⟩⟩, Nat.le_refl _, Int.le_refl _, Nat.le_refl _, h.1⟩
end Jrn
end Go.Proofs.Yteaikleofboknaa
end
section
namespace Go.Proofs.Yteaikleofboknaa
open Go.RowKit
namespace Jrn
open Frm (put first scan fits num)
open Dsk
/-- What is saved. -/
structure SavedIn where
  gen : Nat
  has : Bool
  base : List UInt8
  recs : List (List UInt8)
/-- The snapshot's file. -/
structure SnapOk (l : List FileIn) (has : Bool) (gen : Nat) (base : List UInt8) : Prop where
  file : find snapN l = if has then some ⟨snapN, fileB gen base, (fileB gen base).length⟩ else none
  no : has = false → gen = 0 ∧ base = []
  yes : has = true → 1 ≤ gen
/-- The log's bytes, as a crash may leave them. -/
def LogAt (l : List FileIn) (P : List UInt8 → Prop) : Prop := match find logN l with
  | none => P []
  | some f => ∀ n, f.sure ≤ n → n ≤ f.by'.length → P (f.by'.take n)
/-- A disk's log. -/
def logB (d : DkIn) : List UInt8 := match find logN d.files with
  | none => []
  | some f => f.by'
/-- Whatever a crash leaves, there is saved what may be. -/
def Cr (d : DkIn) (A : SavedIn → Prop) : Prop := ∃ has gen base, SnapOk d.files has gen base ∧ LogAt d.files fun b => ∃ recs, LK gen recs b ∧ A ⟨gen, has, base, recs⟩
/-- A journal that is open on a disk. -/
structure Live (d : DkIn) (S : SavedIn) : Prop where
  snap : SnapOk d.files S.has S.gen S.base
  log : find logN d.files = some ⟨logN, catsL (headL S.gen :: S.recs), (catsL (headL S.gen :: S.recs)).length⟩
  fit : fitL S.recs
/-- A disk at rest. -/
structure Rest (d : DkIn) (S : SavedIn) : Prop where
  cr : Cr d fun T => T = S
  live : d.dead = false
  sure : ∀ f, find logN d.files = some f → f.sure = f.by'.length
theorem Cr.mono {d : DkIn} {A B : SavedIn → Prop} (h : Cr d A) (hab : ∀ T, A T → B T) : Cr d B := by
  obtain ⟨has, gen, base, h1, h2⟩ := h
  refine ⟨has, gen, base, h1, ?_⟩
  unfold LogAt at *
  split at h2
  · obtain ⟨r, h3, h4⟩ := h2
    exact ⟨r, h3, hab _ h4⟩
  · exact fun n a b => by
      obtain ⟨r, h3, h4⟩ := h2 n a b
      exact ⟨r, h3, hab _ h4⟩
theorem LogAt.congr {l m : List FileIn} {P : List UInt8 → Prop} (h : LogAt l P) (e : find logN m = find logN l) : LogAt m P := by
  unfold LogAt at *
  rw [e]
  exact h
theorem SnapOk.congr {l m : List FileIn} {has : Bool} {gen : Nat} {base : List UInt8} (h : SnapOk l has gen base) (e : find snapN m = find snapN l) : SnapOk m has gen base := ⟨e.trans h.file, h.no, h.yes⟩
theorem Cr.congr {d d' : DkIn} {A : SavedIn → Prop} (h : Cr d A) (h1 : find snapN d'.files = find snapN d.files) (h2 : find logN d'.files = find logN d.files) : Cr d' A := by
  obtain ⟨has, gen, base, a, b⟩ := h
  exact ⟨has, gen, base, a.congr h1, b.congr h2⟩
theorem Live.congr {d d' : DkIn} {S : SavedIn} (h : Live d S) (h1 : find snapN d'.files = find snapN d.files) (h2 : find logN d'.files = find logN d.files) : Live d' S := ⟨h.snap.congr h1, h2.trans h.log, h.fit⟩
theorem Live.cr {d : DkIn} {S : SavedIn} (h : Live d S) : Cr d fun T => T = S := by
  refine ⟨S.has, S.gen, S.base, h.snap, ?_⟩
  unfold LogAt
  rw [h.log]
  dsimp only
  intro n h1 h2
  rw [List.take_of_length_le h1]
  exact ⟨S.recs, LK.whole _ h.fit, rfl⟩
theorem Live.gr {d : DkIn} {S : SavedIn} (h : Live d S) : (logB d).length = (catsL (headL S.gen :: S.recs)).length ∧ 17 ≤ (logB d).length := by
  unfold logB
  rw [h.log]
  refine ⟨rfl, ?_⟩
  dsimp only
  rw [catsL_cons, List.length_append, headP_length]
  omega
theorem Live.rest {d : DkIn} {S : SavedIn} (h : Live d S) (hd : d.dead = false) : Rest d S := ⟨h.cr, hd, fun f hf => by
  rw [h.log] at hf
  obtain rfl := Option.some.inj hf
  rfl⟩
/-- A crash: there is one that may be. -/
theorem Cr.crash {d : DkIn} {A : SavedIn → Prop} (h : Cr d A) (hf : Fok d.files) (keep : List Int) : ∃ S, A S ∧ Rest (crashV d keep) S := by
  obtain ⟨has, gen, base, h1, h2⟩ := h
  have hs : SnapOk (crashV d keep).files has gen base := by
    refine ⟨?_, h1.no, h1.yes⟩
    show find snapN (crashF keep 0 d.files) = _
    cases hh : has with
    | false =>
      have := h1.file
      rw [hh] at this
      rw [crash_gone hf keep this]
      rfl
    | true =>
      have := h1.file
      rw [hh] at this
      obtain ⟨n, a1, a2, a3⟩ := crash_find hf keep ⟨snapN, fileB gen base, (fileB gen base).length⟩ this
      dsimp only at a1 a2 a3
      have hl := (fileB_len gen base).1
      have hn : n = (fileB gen base).length := by omega
      rw [a3, if_neg (by omega), hn, List.take_length]
      rfl
  unfold LogAt at h2
  cases hq : find logN d.files with
  | none =>
    rw [hq] at h2
    obtain ⟨r, b1, b2⟩ := h2
    refine ⟨_, b2, ⟨has, gen, base, hs, ?_⟩, rfl, fun f hx => ?_⟩
    · unfold LogAt
      rw [show find logN (crashV d keep).files = none from crash_gone hf keep hq]
      exact ⟨r, b1, rfl⟩
    · rw [show find logN (crashV d keep).files = none from crash_gone hf keep hq] at hx
      cases hx
  | some f =>
    rw [hq] at h2
    have en : f.nm = logN := (find_fok hf hq).1
    rw [← en] at hq
    obtain ⟨n, a1, a2, a3⟩ := crash_find hf keep f hq
    obtain ⟨r, b1, b2⟩ := h2 n a1 a2
    rw [en] at a3
    refine ⟨_, b2, ⟨has, gen, base, hs, ?_⟩, rfl, fun x hx => ?_⟩
    · unfold LogAt
      rw [show find logN (crashV d keep).files = _ from a3]
      by_cases hn : n = 0
      · rw [if_pos hn]
        dsimp only
        rw [hn, List.take_zero] at b1
        exact ⟨r, b1, rfl⟩
      · rw [if_neg hn]
        dsimp only
        intro m c1 c2
        rw [List.take_of_length_le (by rw [List.length_take]; omega)]
        exact ⟨r, b1, rfl⟩
    · rw [show find logN (crashV d keep).files = _ from a3] at hx
      by_cases hn : n = 0
      · rw [if_pos hn] at hx
        cases hx
      · rw [if_neg hn] at hx
        obtain rfl := Option.some.inj hx
        show n = (f.by'.take n).length
        rw [List.length_take]
        omega
/-- An operation: it is done and all goes on, or the disk stands still behind it. -/
theorem op_all (d : DkIn) (hd : d.dead = false) : ((opV d).1 = true ∧ (opV d).2.1 = 0 ∧ (opV d).2.2.dead = false ∧ (d.last = 0 → (opV d).2.2.last = 0)) ∨ ((opV d).2.1 = 14 ∧ (opV d).2.2.dead = true ∧ d.last ≠ 0) := by
  unfold opV
  dsimp only
  by_cases h0 : d.last = 0
  · rw [if_pos h0]
    exact Or.inl ⟨rfl, rfl, hd, fun _ => h0⟩
  · rw [if_neg h0]
    split
    · exact Or.inl ⟨rfl, rfl, hd, fun h => absurd h h0⟩
    · exact Or.inr ⟨rfl, rfl, h0⟩
/-- What an operation answers: done, or the disk stands still; files of other names as they were. -/
structure Did (d : DkIn) (r : Int × DkIn) : Prop where
  room : r.2.room = d.room
  ends : (r.1 = 0 ∧ r.2.dead = false ∧ (d.last = 0 → r.2.last = 0)) ∨ (r.1 = 14 ∧ r.2.dead = true ∧ d.last ≠ 0)
theorem cut_did {d : DkIn} (hf : Fok d.files) (hd : d.dead = false) (s : List UInt8) (f : FileIn) (hq : find s d.files = some f) (n : Nat) (hn : n ≤ f.by'.length) :
    Did d (cutV d s n) ∧ (find s (cutV d s n).2.files = some ⟨s, f.by'.take n, min f.sure n⟩ ∨ ((cutV d s n).1 = 14 ∧ find s (cutV d s n).2.files = some f)) := by
  obtain ⟨e1, e2, e3⟩ := find_fok hf hq
  have e : cutV d s n = ((opV d).2.1, if (opV d).1 then { (opV d).2.2 with files := putF ⟨s, f.by'.take n, min f.sure n⟩ (opV d).2.2.files } else (opV d).2.2) := by
    unfold cutV
    rw [hd, if_neg (by decide), hq]
    dsimp only
    rw [if_neg (by omega)]
    simp
  have p : find s (putF ⟨s, f.by'.take n, min f.sure n⟩ d.files) = some ⟨s, f.by'.take n, min f.sure n⟩ := find_put_same hf ⟨s, f.by'.take n, min f.sure n⟩ e2 (by show min f.sure n ≤ (f.by'.take n).length; rw [List.length_take]; omega)
  rw [e]
  rcases op_all d hd with ⟨o1, o2, o3, o4⟩ | ⟨o1, o2, o3⟩
  · rw [o1, if_pos rfl]
    refine ⟨⟨op_room d, Or.inl ⟨o2, o3, o4⟩⟩, Or.inl ?_⟩
    dsimp only
    rw [op_files]
    exact p
  · refine ⟨⟨?_, Or.inr ⟨o1, ?_, o3⟩⟩, ?_⟩
    · dsimp only
      split
      · exact op_room d
      · exact op_room d
    · dsimp only
      split
      · exact o2
      · exact o2
    · dsimp only
      split
      · dsimp only
        rw [op_files]
        exact Or.inl p
      · rw [op_files]
        exact Or.inr ⟨o1, hq⟩
theorem sync_did {d : DkIn} (hf : Fok d.files) (hd : d.dead = false) (s : List UInt8) (f : FileIn) (hq : find s d.files = some f) :
    Did d (syncV d s) ∧ (find s (syncV d s).2.files = some ⟨s, f.by', f.by'.length⟩ ∨ ((syncV d s).1 = 14 ∧ find s (syncV d s).2.files = some f)) := by
  obtain ⟨e1, e2, e3⟩ := find_fok hf hq
  have e : syncV d s = ((opV d).2.1, if (opV d).1 then { (opV d).2.2 with files := putF ⟨s, f.by', f.by'.length⟩ (opV d).2.2.files } else (opV d).2.2) := by
    unfold syncV
    rw [hd, if_neg (by decide), hq]
  have p : find s (putF ⟨s, f.by', f.by'.length⟩ d.files) = some ⟨s, f.by', f.by'.length⟩ := find_put_same hf ⟨s, f.by', f.by'.length⟩ e2 (Nat.le_refl _)
  rw [e]
  rcases op_all d hd with ⟨o1, o2, o3, o4⟩ | ⟨o1, o2, o3⟩
  · rw [o1, if_pos rfl]
    refine ⟨⟨op_room d, Or.inl ⟨o2, o3, o4⟩⟩, Or.inl ?_⟩
    dsimp only
    rw [op_files]
    exact p
  · refine ⟨⟨?_, Or.inr ⟨o1, ?_, o3⟩⟩, ?_⟩
    · dsimp only
      split
      · exact op_room d
      · exact op_room d
    · dsimp only
      split
      · exact o2
      · exact o2
    · dsimp only
      split
      · dsimp only
        rw [op_files]
        exact Or.inl p
      · rw [op_files]
        exact Or.inr ⟨o1, hq⟩
/-- Bytes are put behind a file's, or there is no room. -/
theorem append_did {d : DkIn} (hf : Fok d.files) (hd : d.dead = false) (s b : List UInt8) (hs : isName s = true) :
    (appendV d s b = (4, d) ∧ d.room < bytesOf d.files + b.length) ∨
    (bytesOf d.files + b.length ≤ d.room ∧ Did d (appendV d s b) ∧ find s (appendV d s b).2.files = some ⟨s, ((find s d.files).getD ⟨s, [], 0⟩).by' ++ b, ((find s d.files).getD ⟨s, [], 0⟩).sure⟩) := by
  have hu : usedV d = (bytesOf d.files : Int) := by unfold usedV; rw [if_neg (by rw [hd]; decide)]
  by_cases h1 : d.room - usedV d < (b.length : Int)
  · refine Or.inl ⟨?_, by rw [hu] at h1; omega⟩
    unfold appendV
    rw [hd, if_neg (by decide), if_neg (by rw [hs]; decide), if_pos h1]
  · have e : appendV d s b = ((opV { d with files := putF ⟨s, ((find s d.files).getD ⟨s, [], 0⟩).by' ++ b, ((find s d.files).getD ⟨s, [], 0⟩).sure⟩ d.files }).2.1, (opV { d with files := putF ⟨s, ((find s d.files).getD ⟨s, [], 0⟩).by' ++ b, ((find s d.files).getD ⟨s, [], 0⟩).sure⟩ d.files }).2.2) := by
      unfold appendV
      rw [hd, if_neg (by decide), if_neg (by rw [hs]; decide), if_neg h1]
    refine Or.inr ⟨by rw [hu] at h1; omega, ⟨?_, ?_⟩, ?_⟩
    · rw [e]
      exact op_room _
    · rw [e]
      rcases op_all { d with files := putF ⟨s, ((find s d.files).getD ⟨s, [], 0⟩).by' ++ b, ((find s d.files).getD ⟨s, [], 0⟩).sure⟩ d.files } hd with ⟨o1, o2, o3, o4⟩ | ⟨o1, o2, o3⟩
      · exact Or.inl ⟨o2, o3, o4⟩
      · exact Or.inr ⟨o1, o2, o3⟩
    · rw [e]
      dsimp only
      rw [op_files]
      exact find_put_same hf ⟨s, _, _⟩ hs (more_ok hf s b)
theorem rename_did {d : DkIn} (hf : Fok d.files) (hd : d.dead = false) (s t : List UInt8) (ht : isName t = true) (f : FileIn) (hq : find s d.files = some f) :
    Did d (renameV d s t) ∧ (find t (renameV d s t).2.files = some ⟨t, f.by', f.sure⟩ ∨ ((renameV d s t).1 = 14 ∧ find t (renameV d s t).2.files = find t d.files)) := by
  obtain ⟨e1, e2, e3⟩ := find_fok hf hq
  have e : renameV d s t = ((opV d).2.1, if (opV d).1 then { (opV d).2.2 with files := putF { f with nm := t } (del s (opV d).2.2.files) } else (opV d).2.2) := by
    unfold renameV
    rw [hd, if_neg (by decide), if_neg (by rw [ht]; decide), hq]
  have p : find t (putF { f with nm := t } (del s d.files)) = some ⟨t, f.by', f.sure⟩ := find_put_same (hf.del s) { f with nm := t } ht e3
  rw [e]
  rcases op_all d hd with ⟨o1, o2, o3, o4⟩ | ⟨o1, o2, o3⟩
  · rw [o1, if_pos rfl]
    refine ⟨⟨op_room d, Or.inl ⟨o2, o3, o4⟩⟩, Or.inl ?_⟩
    dsimp only
    rw [op_files]
    exact p
  · refine ⟨⟨?_, Or.inr ⟨o1, ?_, o3⟩⟩, ?_⟩
    · dsimp only
      split
      · exact op_room d
      · exact op_room d
    · dsimp only
      split
      · exact o2
      · exact o2
    · dsimp only
      split
      · dsimp only
        rw [op_files]
        exact Or.inl p
      · rw [op_files]
        exact Or.inr ⟨o1, rfl⟩
end Jrn
end Go.Proofs.Yteaikleofboknaa
end
section
namespace Go.Proofs.Yteaikleofboknaa
open Go.RowKit
namespace Jrn
open Frm (put first scan fits num)
open Dsk
theorem read_live {d : DkIn} (hd : d.dead = false) (s : List UInt8) : readV d s = match find s d.files with | none => ([], 3) | some f => (f.by', 0) := by
  unfold readV
  rw [hd, if_neg (by decide)]
  cases find s d.files <;> rfl
/-- A file is cut to none, if there is one. -/
theorem clears_did {d : DkIn} (hf : Fok d.files) (hd : d.dead = false) (s : List UInt8) :
    (clearsV d s = (0, d) ∧ find s d.files = none) ∨
    (∃ f, find s d.files = some f ∧ Did d (clearsV d s) ∧ (find s (clearsV d s).2.files = some ⟨s, [], 0⟩ ∨ ((clearsV d s).1 = 14 ∧ find s (clearsV d s).2.files = some f)) ∧ Fok (clearsV d s).2.files ∧ (∀ m, m ≠ s → find m (clearsV d s).2.files = find m d.files)) := by
  unfold clearsV
  rw [read_live hd]
  cases hq : find s d.files with
  | none => exact Or.inl ⟨rfl, rfl⟩
  | some f =>
    dsimp only
    rw [if_pos rfl]
    obtain ⟨h1, h2⟩ := cut_did hf hd s f hq 0 (Nat.zero_le _)
    refine Or.inr ⟨f, rfl, h1, ?_, (cut_keeps hf s 0 (m := s ++ [0]) (fun e => by have := congrArg List.length e; simp at this)).1, fun m hm => (cut_keeps hf s 0 hm).2⟩
    have e : min f.sure 0 = 0 := Nat.min_zero _
    rw [e, List.take_zero] at h2
    exact h2
theorem cut_bytes {d : DkIn} (s : List UInt8) (f : FileIn) (hq : find s d.files = some f) (hd : d.dead = false) (h0 : (cutV d s 0).1 = 0) : (bytesOf (cutV d s 0).2.files : Int) + f.by'.length ≤ bytesOf d.files := by
  have e : cutV d s 0 = ((opV d).2.1, if (opV d).1 then { (opV d).2.2 with files := putF ⟨s, [], 0⟩ (opV d).2.2.files } else (opV d).2.2) := by
    unfold cutV
    rw [hd, if_neg (by decide), hq]
    dsimp only
    rw [if_neg (by omega)]
    simp
  rw [e] at h0 ⊢
  rcases op_all d hd with ⟨o1, o2, o3, o4⟩ | ⟨o1, o2, o3⟩
  · rw [o1, if_pos rfl]
    dsimp only
    rw [op_files]
    obtain ⟨p1, p2⟩ := bytes_put ⟨s, [], 0⟩ d.files
    have := bytes_found hq
    dsimp only at p1
    rw [p1]
    simp
    omega
  · dsimp only at h0
    rw [o1] at h0
    cases h0
/-- What a journal's act answers. -/
structure End (d : DkIn) (r : Int × DkIn) (A B : SavedIn → Prop) : Prop where
  room : r.2.room = d.room
  ends : (r.1 = 0 ∧ r.2.dead = false ∧ (d.last = 0 → r.2.last = 0) ∧ ∃ S, A S ∧ Live r.2 S) ∨ (r.1 = 14 ∧ r.2.dead = true ∧ d.last ≠ 0 ∧ Cr r.2 B)
/-- A log is begun. -/
theorem begins_end {d : DkIn} (hf : Fok d.files) (hd : d.dead = false) {has : Bool} {g : Nat} {base : List UInt8} (hs : SnapOk d.files has g base) (hl : LogAt d.files (LK g []))
    (hr : (bytesOf d.files : Int) + 17 ≤ d.room + (logB d).length) : End d (beginsV d g) (fun T => T = ⟨g, has, base, []⟩) (fun T => T = ⟨g, has, base, []⟩) := by
  -- behind the cut
  have key : ∀ d1 : DkIn, Fok d1.files → d1.dead = false → SnapOk d1.files has g base → (find logN d1.files = none ∨ find logN d1.files = some ⟨logN, [], 0⟩) → (bytesOf d1.files : Int) + 17 ≤ d1.room →
      End d1 (thenV (appendV d1 logN (put (headL g))) fun d => syncV d logN) (fun T => T = ⟨g, has, base, []⟩) (fun T => T = ⟨g, has, base, []⟩) := by
    intro d1 f1 l1 s1 g1 r1
    have hg : (find logN d1.files).getD ⟨logN, [], 0⟩ = ⟨logN, [], 0⟩ := by rcases g1 with g1 | g1 <;> rw [g1] <;> rfl
    rcases append_did f1 l1 logN (put (headL g)) isLog with ⟨e, hx⟩ | ⟨hx, hD, hF⟩
    · rw [headP_length] at hx
      omega
    · rw [hg] at hF
      dsimp only at hF
      rw [List.nil_append] at hF
      have f2 := append_fok f1 logN (put (headL g))
      have s2 := s1.congr (append_find f1 logN (put (headL g)) ne_sl)
      have c2 : Cr (appendV d1 logN (put (headL g))).2 fun T => T = ⟨g, has, base, []⟩ := by
        refine ⟨has, g, base, s2, ?_⟩
        unfold LogAt
        rw [hF]
        dsimp only
        exact fun n _ _ => ⟨[], LK.begin' g n, rfl⟩
      have whole : put (headL g) = catsL (headL g :: []) := (catsL_one _).symm
      generalize appendV d1 logN (put (headL g)) = R at *
      rcases hD.ends with ⟨e1, e2, e3⟩ | ⟨e1, e2, e3⟩
      · unfold thenV
        rw [if_pos e1]
        obtain ⟨hD3, hF3⟩ := sync_did f2 e2 logN _ hF
        have s3 := s2.congr (sync_keeps f2 logN ne_sl).2
        refine ⟨hD3.room.trans hD.room, ?_⟩
        rcases hD3.ends with ⟨k1, k2, k3⟩ | ⟨k1, k2, k3⟩
        · rcases hF3 with hF3 | ⟨hF3, _⟩
          · refine Or.inl ⟨k1, k2, fun h => k3 (e3 h), _, rfl, ⟨s3, ?_, fun r hr => by cases hr⟩⟩
            rw [hF3]
            dsimp only
            rw [whole]
          · rw [k1] at hF3; cases hF3
        · refine Or.inr ⟨k1, k2, fun h => k3 (e3 h), has, g, base, s3, ?_⟩
          unfold LogAt
          rcases hF3 with hF3 | ⟨_, hF3⟩
          · rw [hF3]
            dsimp only
            exact fun n _ _ => ⟨[], LK.begin' g n, rfl⟩
          · rw [hF3]
            dsimp only
            exact fun n _ _ => ⟨[], LK.begin' g n, rfl⟩
      · unfold thenV
        rw [if_neg (by rw [e1]; decide)]
        exact ⟨hD.room, Or.inr ⟨e1, e2, e3, c2⟩⟩
  have hass : beginsV d g = thenV (clearsV d logN) fun d => thenV (appendV d logN (put (headL g))) fun d => syncV d logN := by
    unfold beginsV thenV
    split
    · rfl
    · rfl
  rw [hass]
  rcases clears_did hf hd logN with ⟨e, hq⟩ | ⟨f, hq, hD, hF, f2, h2⟩
  · rw [e]
    unfold thenV
    rw [if_pos rfl]
    have hlb : logB d = [] := by unfold logB; rw [hq]
    rw [hlb] at hr
    exact key d hf hd hs (Or.inl hq) (by simp at hr; omega)
  · have s2 := hs.congr (h2 snapN ne_sl)
    have hlb : logB d = f.by' := by unfold logB; rw [hq]
    have hcut : clearsV d logN = cutV d logN 0 := by
      unfold clearsV
      rw [read_live hd, hq]
      rfl
    have hby := fun h0 => cut_bytes logN f hq hd (by rw [← hcut]; exact h0)
    rw [← hcut] at hby
    have c2 : (clearsV d logN).1 = 14 → Cr (clearsV d logN).2 fun T => T = ⟨g, has, base, []⟩ := fun _ => by
      refine ⟨has, g, base, s2, ?_⟩
      rcases hF with hF | ⟨_, hF⟩
      · unfold LogAt
        rw [hF]
        dsimp only
        intro n h1 h2
        rw [List.take_nil]
        exact ⟨[], LK.empty g, rfl⟩
      · unfold LogAt at hl ⊢
        rw [hq] at hl
        rw [hF]
        dsimp only at hl ⊢
        exact fun n h1 h2 => ⟨[], hl n h1 h2, rfl⟩
    generalize clearsV d logN = R at *
    rcases hD.ends with ⟨e1, e2, e3⟩ | ⟨e1, e2, e3⟩
    · unfold thenV
      rw [if_pos e1]
      rcases hF with hF | ⟨hF, _⟩
      · have hb := hby e1
        rw [hlb] at hr
        have hR := hD.room
        obtain ⟨k1, k2⟩ := key R.2 f2 e2 s2 (Or.inr hF) (by omega)
        unfold thenV at k1 k2
        refine ⟨k1.trans hD.room, ?_⟩
        rcases k2 with ⟨k3, k4, k5, k6⟩ | ⟨k3, k4, k5, k6⟩
        · exact Or.inl ⟨k3, k4, fun h => k5 (e3 h), k6⟩
        · exact Or.inr ⟨k3, k4, fun h => k5 (e3 h), k6⟩
      · rw [e1] at hF; cases hF
    · unfold thenV
      rw [if_neg (by rw [e1]; decide)]
      exact ⟨hD.room, Or.inr ⟨e1, e2, e3, c2 e1⟩⟩
/-- A record is saved, or there is no room. -/
theorem write_end {d : DkIn} {S : SavedIn} (hf : Fok d.files) (hd : d.dead = false) (h : Live d S) (r : List UInt8) (hr : fits r.length = true) :
    (writeV d r = (4, d) ∧ d.room < bytesOf d.files + (8 + r.length)) ∨ End d (writeV d r) (fun T => T = { S with recs := S.recs ++ [r] }) (fun T => T = S ∨ T = { S with recs := S.recs ++ [r] }) := by
  unfold writeV
  rcases append_did hf hd logN (put r) isLog with ⟨e, hx⟩ | ⟨hx, hD, hF⟩
  · rw [e]
    rw [Frm.put_length] at hx
    unfold thenV
    rw [if_neg (show ¬ ((4 : Int) = 0) by decide)]
    exact Or.inl ⟨rfl, by omega⟩
  · refine Or.inr ?_
    rw [h.log] at hF
    have hF : find logN (appendV d logN (put r)).2.files = some ⟨logN, catsL (headL S.gen :: S.recs) ++ put r, (catsL (headL S.gen :: S.recs)).length⟩ := hF
    have f2 := append_fok hf logN (put r)
    have s2 := h.snap.congr (append_find hf logN (put r) ne_sl)
    have sure : ∀ n, (catsL (headL S.gen :: S.recs)).length ≤ n → ∃ recs, LK S.gen recs ((catsL (headL S.gen :: S.recs) ++ put r).take n) ∧ ((⟨S.gen, S.has, S.base, recs⟩ : SavedIn) = S ∨ (⟨S.gen, S.has, S.base, recs⟩ : SavedIn) = { S with recs := S.recs ++ [r] }) := fun n hn => by
      rcases LK.write S.gen h.fit r hr n hn with k | k
      · exact ⟨_, k, Or.inl rfl⟩
      · exact ⟨_, k, Or.inr rfl⟩
    have c2 : Cr (appendV d logN (put r)).2 fun T => T = S ∨ T = { S with recs := S.recs ++ [r] } := by
      refine ⟨S.has, S.gen, S.base, s2, ?_⟩
      unfold LogAt
      rw [hF]
      dsimp only
      exact fun n h1 _ => sure n h1
    have whole : catsL (headL S.gen :: S.recs) ++ put r = catsL (headL S.gen :: (S.recs ++ [r])) := by
      rw [catsL_cons, catsL_cons, catsL_append, catsL_one, List.append_assoc]
    have fit : fitL (S.recs ++ [r]) := fun x hx => by
      rcases List.mem_append.1 hx with hx | hx
      · exact h.fit x hx
      · rw [List.mem_singleton.1 hx]; exact hr
    generalize appendV d logN (put r) = R at *
    rcases hD.ends with ⟨e1, e2, e3⟩ | ⟨e1, e2, e3⟩
    · unfold thenV
      rw [if_pos e1]
      obtain ⟨hD3, hF3⟩ := sync_did f2 e2 logN _ hF
      have s3 := s2.congr (sync_keeps f2 logN ne_sl).2
      refine ⟨hD3.room.trans hD.room, ?_⟩
      rcases hD3.ends with ⟨k1, k2, k3⟩ | ⟨k1, k2, k3⟩
      · rcases hF3 with hF3 | ⟨hF3, _⟩
        · refine Or.inl ⟨k1, k2, fun h => k3 (e3 h), _, rfl, ⟨s3, ?_, fit⟩⟩
          rw [hF3]
          dsimp only
          rw [whole]
        · rw [k1] at hF3; cases hF3
      · refine Or.inr ⟨k1, k2, fun h => k3 (e3 h), S.has, S.gen, S.base, s3, ?_⟩
        unfold LogAt
        rcases hF3 with hF3 | ⟨_, hF3⟩
        · rw [hF3]
          dsimp only
          intro n h1 _
          exact sure n (by rw [List.length_append] at h1; omega)
        · rw [hF3]
          dsimp only
          exact fun n h1 _ => sure n h1
    · unfold thenV
      rw [if_neg (by rw [e1]; decide)]
      exact ⟨hD.room, Or.inr ⟨e1, e2, e3, c2⟩⟩
end Jrn
end Go.Proofs.Yteaikleofboknaa
end
