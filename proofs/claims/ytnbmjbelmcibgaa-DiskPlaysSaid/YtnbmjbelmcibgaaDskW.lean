/- A disk's laws, in plain words: what was sure is there; what was written beside is whole. -/
import Derived.Test.YtnbmjbelmcibgaaDskA
set_option linter.unusedSimpArgs false
set_option linter.unusedVariables false
namespace Go.Proofs.Ytnbmjbelmcibgaa
open Go.RowKit
namespace Dsk
def mineB : List UInt8 := [109, 105, 110, 101]
def aB : List UInt8 := [97]
def bB : List UInt8 := [98]
/-- A disk as it is made. -/
def newD (room : Int) : DkIn := ⟨[], room, 0, 0, false, false⟩
/-- A disk with one file. -/
def oneD (s : List UInt8) (b : List UInt8) (sure : Nat) (ops : Int) : DkIn := ⟨[⟨s, b, sure⟩], 65536, ops, 0, false, false⟩
theorem new_append (s b : List UInt8) (hs : isName s = true) (hb : b.length ≤ 200) : appendV (newD 65536) s b = (0, oneD s b 0 1) := by
  have h1 : ¬ ((newD 65536).room - usedV (newD 65536) < (b.length : Int)) := by
    show ¬ (65536 - (0 : Int) < (b.length : Int))
    omega
  unfold appendV
  rw [if_neg (show ¬ (newD 65536).dead = true from fun h => by cases h), if_neg (by rw [hs]; decide), if_neg h1]
  rfl
theorem one_find (s b : List UInt8) (n : Nat) (o : Int) : find s (oneD s b n o).files = some ⟨s, b, n⟩ := by
  unfold find oneD
  simp
theorem one_put (s b c : List UInt8) (n m : Nat) (o : Int) : putF ⟨s, c, m⟩ (oneD s b n o).files = [⟨s, c, m⟩] := by
  unfold putF del oneD
  simp [ins]
theorem one_sync (s b : List UInt8) (n : Nat) (o : Int) : syncV (oneD s b n o) s = (0, oneD s b b.length (o + 1)) := by
  unfold syncV
  rw [if_neg (show ¬ (oneD s b n o).dead = true from fun h => by cases h), one_find]
  dsimp only
  have e : opV (oneD s b n o) = (true, 0, oneD s b n (o + 1)) := rfl
  rw [e]
  dsimp only
  rw [if_pos rfl, one_put]
  rfl
theorem one_append (s b c : List UInt8) (n : Nat) (o : Int) (hs : isName s = true) (hb : b.length ≤ 200) (hc : c.length ≤ 200) : appendV (oneD s b n o) s c = (0, oneD s (b ++ c) n (o + 1)) := by
  have h1 : ¬ ((oneD s b n o).room - usedV (oneD s b n o) < (c.length : Int)) := by
    have : usedV (oneD s b n o) = (b.length : Int) := by unfold usedV oneD bytesOf; simp
    rw [this]
    show ¬ ((65536 : Int) - (b.length : Int) < (c.length : Int))
    omega
  unfold appendV
  rw [if_neg (show ¬ (oneD s b n o).dead = true from fun h => by cases h), if_neg (by rw [hs]; decide), if_neg h1, one_find]
  dsimp only
  rw [Option.getD_some, one_put]
  rfl
theorem one_fok (s b : List UInt8) (n : Nat) (o : Int) (hs : isName s = true) (hn : n ≤ b.length) : Fok (oneD s b n o).files :=
  ⟨by simp [oneD], fun f hf => by simp [oneD] at hf; rw [hf]; exact hs, fun f hf => by simp [oneD] at hf; rw [hf]; exact hn⟩
/-- Acts, one behind the other; those of a name are left out. -/
def others (m : List UInt8) (a : ActIn) : Bool := !decide (a.name = m) && !decide (a.arg = m) && !decide (a.kind = 6)
def runV (m : List UInt8) (d : DkIn) : List ActIn → DkIn
  | [] => d
  | a :: l => runV m (if others m a = true then (doV d a).2 else d) l
theorem run_keeps (m : List UInt8) : ∀ (l : List ActIn) (d : DkIn), Fok d.files → Fok (runV m d l).files ∧ find m (runV m d l).files = find m d.files
  | [], d, h => ⟨h, rfl⟩
  | a :: l, d, h => by
    unfold runV
    by_cases ho : others m a = true
    · rw [if_pos ho]
      unfold others at ho
      simp at ho
      obtain ⟨h1, h2⟩ := do_keeps h a (m := m) ho.1.1 ho.1.2 ho.2
      obtain ⟨h3, h4⟩ := run_keeps m l _ h1
      exact ⟨h3, h4.trans h2⟩
    · rw [if_neg ho]
      exact run_keeps m l d h
/-- What was sure is there behind any crash. -/
theorem sure_law (sure more : List UInt8) (d : DkIn) (h : Fok d.files) (hf : find mineB d.files = some ⟨mineB, sure ++ more, sure.length⟩) (keep : List Int) :
    (readV (crashV d keep) mineB = ([], 3) ∧ sure = []) ∨ ∃ n, sure.length ≤ n ∧ 1 ≤ n ∧ n ≤ (sure ++ more).length ∧ readV (crashV d keep) mineB = ((sure ++ more).take n, 0) := by
  obtain ⟨n, h1, h2, h3⟩ := crash_find h keep ⟨mineB, sure ++ more, sure.length⟩ hf
  dsimp only at h1 h2 h3
  have hc : (crashV d keep).files = crashF keep 0 d.files := rfl
  have hd : (crashV d keep).dead = false := rfl
  unfold readV
  rw [hd, if_neg (by decide), hc, h3]
  by_cases hn : n = 0
  · rw [if_pos hn]
    exact Or.inl ⟨rfl, List.eq_nil_of_length_eq_zero (by omega)⟩
  · rw [if_neg hn]
    exact Or.inr ⟨n, h1, by omega, h2, rfl⟩
/-- A file all of which is sure is there whole behind any crash. -/
theorem whole_crash {d : DkIn} (h : Fok d.files) {s b : List UInt8} (hf : find s d.files = some ⟨s, b, b.length⟩) (hb : 1 ≤ b.length) (keep : List Int) : readV (crashV d keep) s = (b, 0) := by
  obtain ⟨n, h1, h2, h3⟩ := crash_find h keep ⟨s, b, b.length⟩ hf
  dsimp only at h1 h2 h3
  have hn : n = b.length := by omega
  have hc : (crashV d keep).files = crashF keep 0 d.files := rfl
  have hd : (crashV d keep).dead = false := rfl
  unfold readV
  rw [hd, if_neg (by decide), hc, h3, if_neg (by omega), hn]
  simp
end Dsk
end Go.Proofs.Ytnbmjbelmcibgaa
