/- The names of a command's numbers, the kinds' words and fields: plain lists. -/
import Derived.Test.YtbjlkeneeodghaaDoorStkP
import Derived.Test.YtbjlkeneeodghaaDoorIn
import Derived.Lib.Fields
import Derived.Lib.SlicesS
set_option linter.unusedSimpArgs false
set_option linter.unusedVariables false
namespace Go.Proofs.YtbjlkeneeodghaaDoor
open Go.RowKit
namespace Cmd
open Pen (bs)
/-- The names of the numbers. -/
def names : List (List UInt8) := [[119, 104, 111], [97, 115], [100, 105, 118], [105, 100], [116, 111], [105, 110, 116, 111], [112, 108, 97, 99, 101], [100, 101, 115, 116], [116, 121, 112, 101], [110], [112, 108, 101, 100, 103, 101], [108, 97, 115, 116, 115], [100, 97, 121, 115], [114, 117, 110, 115], [99, 111, 112, 105, 101, 115], [114, 111, 108, 101, 115], [109, 101], [116, 101], [98, 97, 121]]
/-- The kinds' words. -/
def words : List (List UInt8) := [[109, 105, 110, 116], [115, 101, 101, 100], [100, 114, 97, 102, 116], [102, 111, 117, 110, 100], [101, 110, 114, 111, 108], [101, 120, 112, 101, 108], [112, 97, 121], [103, 105, 118, 101], [105, 110, 115, 116, 97, 108, 108], [112, 97, 117, 115, 101], [114, 101, 115, 117, 109, 101], [99, 97, 110, 99, 101, 108], [100, 101, 108, 105, 118, 101, 114], [105, 115, 115, 117, 101], [97, 99, 99, 101, 112, 116], [104, 97, 110, 100], [102, 97, 105, 108], [114, 101, 106, 101, 99, 116], [114, 101, 118, 111, 107, 101], [116, 105, 99, 107], [109, 111, 110, 101, 121], [115, 116, 97, 99, 107], [106, 111, 98], [100, 101, 97, 108], [99, 108, 111, 99, 107]]
/-- The kinds' fields as a text. -/
def texts : List (List UInt8) := [[97, 115, 32, 110], [97, 115, 32, 100, 105, 118, 32, 112, 108, 97, 99, 101, 32, 116, 121, 112, 101, 32, 110], [97, 115, 32, 100, 105, 118, 32, 112, 108, 97, 99, 101, 32, 116, 121, 112, 101, 32, 109, 101, 32, 116, 101, 32, 114, 117, 110, 115], [119, 104, 111], [119, 104, 111, 32, 97, 115, 32, 116, 111, 32, 114, 111, 108, 101, 115], [119, 104, 111, 32, 97, 115, 32, 116, 111], [119, 104, 111, 32, 97, 115, 32, 116, 111, 32, 110], [119, 104, 111, 32, 97, 115, 32, 100, 105, 118, 32, 116, 111, 32, 105, 110, 116, 111, 32, 112, 108, 97, 99, 101, 32, 116, 121, 112, 101, 32, 110], [119, 104, 111, 32, 97, 115, 32, 100, 105, 118, 32, 98, 97, 121, 32, 105, 100, 32, 116, 121, 112, 101, 32, 114, 117, 110, 115, 32, 99, 111, 112, 105, 101, 115], [119, 104, 111, 32, 105, 100], [119, 104, 111, 32, 105, 100], [119, 104, 111, 32, 105, 100], [119, 104, 111, 32, 105, 100], [119, 104, 111, 32, 97, 115, 32, 100, 105, 118, 32, 116, 121, 112, 101, 32, 116, 111, 32, 112, 108, 97, 99, 101, 32, 100, 101, 115, 116, 32, 110, 32, 112, 108, 101, 100, 103, 101, 32, 108, 97, 115, 116, 115, 32, 100, 97, 121, 115], [119, 104, 111, 32, 97, 115, 32, 100, 105, 118, 32, 105, 100], [119, 104, 111, 32, 105, 100], [119, 104, 111, 32, 105, 100], [119, 104, 111, 32, 105, 100], [119, 104, 111, 32, 105, 100], [110], [119, 104, 111, 32, 97, 115], [119, 104, 111, 32, 97, 115, 32, 100, 105, 118, 32, 112, 108, 97, 99, 101, 32, 116, 121, 112, 101], [119, 104, 111, 32, 105, 100], [119, 104, 111, 32, 105, 100], [119, 104, 111]]
/-- The kinds' fields as places. -/
def fis : List (List Nat) := [[1, 9], [1, 2, 6, 8, 9], [1, 2, 6, 8, 16, 17, 13], [0], [0, 1, 4, 15], [0, 1, 4], [0, 1, 4, 9], [0, 1, 2, 4, 5, 6, 8, 9], [0, 1, 2, 18, 3, 8, 13, 14], [0, 3], [0, 3], [0, 3], [0, 3], [0, 1, 2, 8, 4, 6, 7, 9, 10, 11, 12], [0, 1, 2, 3], [0, 3], [0, 3], [0, 3], [0, 3], [9], [0, 1], [0, 1, 2, 6, 8], [0, 3], [0, 3], [0]]
def nm (i : Nat) : ByteArray := bs (names.getD i [])
def wd (k : Nat) : ByteArray := bs (words.getD k [])
def tx (k : Nat) : ByteArray := bs (texts.getD k [])
/-- The places of a kind's fields. -/
def fi (kind : Int) : List Nat := if 1 ≤ kind ∧ kind ≤ 25 then fis.getD (kind - 1).toNat [] else []
def fn (kind : Int) : List ByteArray := (fi kind).map nm
/-- The first place of a name, among the first so many. -/
def placeTo (s : ByteArray) : Nat → Option Nat
  | 0 => none
  | n + 1 => match placeTo s n with
    | some i => some i
    | none => if nm n = s then some n else none
def place (s : ByteArray) : Option Nat := placeTo s 19
def kindTo (s : ByteArray) : Nat → Int
  | 0 => 0
  | n + 1 => if kindTo s n = 0 then (if wd n = s then ((n : Nat) : Int) + 1 else 0) else kindTo s n
def kindOf (s : ByteArray) : Int := kindTo s 25
def nameOf (kind : Int) : ByteArray := if 1 ≤ kind ∧ kind ≤ 25 then wd (kind - 1).toNat else ByteArray.empty
theorem bs_inj {a b : List UInt8} (h : bs a = bs b) : a = b := by have := congrArg (fun x => x.data.toList) h; exact this
theorem names_apart : ∀ i, i < 19 → ∀ j, j < 19 → names.getD i [] = names.getD j [] → i = j := by decide +kernel
theorem words_apart : ∀ i, i < 25 → ∀ j, j < 25 → words.getD i [] = words.getD j [] → i = j := by decide +kernel
theorem nm_inj {i j : Nat} (hi : i < 19) (hj : j < 19) (h : nm i = nm j) : i = j := names_apart i hi j hj (bs_inj h)
theorem wd_inj {i j : Nat} (hi : i < 25) (hj : j < 25) (h : wd i = wd j) : i = j := words_apart i hi j hj (bs_inj h)
theorem fis_small : ∀ k, k < 25 → ∀ i ∈ fis.getD k [], i < 19 := by decide +kernel
theorem fis_nodup : ∀ k, k < 25 → (fis.getD k []).Nodup := by decide +kernel
theorem fis_some : ∀ k, k < 25 → fis.getD k [] ≠ [] := by decide +kernel
theorem fis_len : ∀ k, k < 25 → (fis.getD k []).length ≤ 11 := by decide +kernel
theorem fis_text : ∀ k, k < 25 → Lib.fields (texts.getD k []) = (fis.getD k []).map fun i => names.getD i [] := by decide +kernel
theorem texts_ascii : ∀ k, k < 25 → ∀ b ∈ texts.getD k [], b.toNat < 128 := by decide +kernel
theorem texts_len : ∀ k, k < 25 → (texts.getD k []).length ≤ 100 := by decide +kernel
theorem fi_in {kind : Int} (h : 1 ≤ kind ∧ kind ≤ 25) : fi kind = fis.getD (kind - 1).toNat [] := if_pos h
theorem fi_out {kind : Int} (h : ¬ (1 ≤ kind ∧ kind ≤ 25)) : fi kind = [] := if_neg h
theorem fi_small (kind : Int) : ∀ i ∈ fi kind, i < 19 := by
  by_cases h : 1 ≤ kind ∧ kind ≤ 25
  · rw [fi_in h]; exact fis_small _ (by omega)
  · rw [fi_out h]; exact fun i hi => by cases hi
theorem fi_nodup (kind : Int) : (fi kind).Nodup := by
  by_cases h : 1 ≤ kind ∧ kind ≤ 25
  · rw [fi_in h]; exact fis_nodup _ (by omega)
  · rw [fi_out h]; exact List.nodup_nil
theorem fi_len (kind : Int) : (fi kind).length ≤ 11 := by
  by_cases h : 1 ≤ kind ∧ kind ≤ 25
  · rw [fi_in h]; exact fis_len _ (by omega)
  · rw [fi_out h]; exact Nat.zero_le _
theorem fi_none (kind : Int) : (fi kind).length = 0 ↔ ¬ (1 ≤ kind ∧ kind ≤ 25) := by
  constructor
  · intro h hk
    rw [fi_in hk] at h
    exact fis_some _ (by omega) (List.eq_nil_of_length_eq_zero h)
  · intro h; rw [fi_out h]; rfl
theorem place_lt {s : ByteArray} : ∀ n i, placeTo s n = some i → i < n ∧ nm i = s := by
  intro n
  induction n with
  | zero => intro i h; cases h
  | succ n ih =>
    intro i h
    unfold placeTo at h
    cases hp : placeTo s n with
    | some j => rw [hp] at h; simp only at h; cases h; exact ⟨Nat.lt_succ_of_lt (ih _ hp).1, (ih _ hp).2⟩
    | none =>
      rw [hp] at h; simp only at h
      split at h
      · rename_i he; cases h; exact ⟨Nat.lt_succ_self _, he⟩
      · cases h
theorem place_not {s : ByteArray} : ∀ n, placeTo s n = none → ∀ i, i < n → nm i ≠ s := by
  intro n
  induction n with
  | zero => intro h i hi; omega
  | succ n ih =>
    intro h i hi
    unfold placeTo at h
    cases hp : placeTo s n with
    | some j => rw [hp] at h; simp only at h; cases h
    | none =>
      rw [hp] at h; simp only at h
      split at h
      · cases h
      · rename_i he
        by_cases hin : i = n
        · subst hin; exact he
        · exact ih hp i (by omega)
theorem place_nm {i : Nat} (hi : i < 19) : place (nm i) = some i := by
  cases h : place (nm i) with
  | some j =>
    have := place_lt 19 j h
    rw [nm_inj this.1 hi this.2]
  | none => exact absurd rfl (place_not 19 h i hi)
end Cmd
end Go.Proofs.YtbjlkeneeodghaaDoor
