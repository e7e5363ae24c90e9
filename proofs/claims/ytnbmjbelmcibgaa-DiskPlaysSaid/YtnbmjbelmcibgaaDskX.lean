/- A file that is written beside, made sure, and renamed: in plain words. -/
import Derived.Test.YtnbmjbelmcibgaaDskW
set_option linter.unusedSimpArgs false
set_option linter.unusedVariables false
namespace Go.Proofs.Ytnbmjbelmcibgaa
open Go.RowKit
namespace Dsk
theorem op_cases (d : DkIn) (hd : d.dead = false) : ((opV d).1 = true ∧ (opV d).2.1 = 0 ∧ (opV d).2.2.dead = false) ∨ ((opV d).2.1 = 14 ∧ (opV d).2.2.dead = true) := by
  unfold opV
  dsimp only
  split
  · exact Or.inl ⟨rfl, rfl, hd⟩
  · split
    · exact Or.inl ⟨rfl, rfl, hd⟩
    · exact Or.inr ⟨rfl, rfl⟩
theorem okA : isName aB = true := by decide
theorem okB : isName bB = true := by decide
theorem neAB : aB ≠ bB := by decide
/-- What is there while a file is written beside. -/
structure Bes (d : DkIn) (old : List UInt8) : Prop where
  fok : Fok d.files
  a : find aB d.files = some ⟨aB, old, old.length⟩
  room : d.room = 65536
theorem bes_append {d : DkIn} {old fresh : List UInt8} (h : Bes d old) (hd : d.dead = false) (hb : find bB d.files = none) (hu : bytesOf d.files ≤ 200) (hf : fresh.length ≤ 200) :
    Bes (appendV d bB fresh).2 old ∧ find bB (appendV d bB fresh).2.files = some ⟨bB, fresh, 0⟩ ∧ (((appendV d bB fresh).1 = 0 ∧ (appendV d bB fresh).2.dead = false) ∨ ((appendV d bB fresh).1 = 14 ∧ (appendV d bB fresh).2.dead = true)) := by
  have h1 : ¬ (d.room - usedV d < (fresh.length : Int)) := by
    unfold usedV
    rw [hd, if_neg (by decide), h.room]
    omega
  have e : appendV d bB fresh = ((opV { d with files := putF ⟨bB, fresh, 0⟩ d.files }).2.1, (opV { d with files := putF ⟨bB, fresh, 0⟩ d.files }).2.2) := by
    unfold appendV
    rw [hd, if_neg (by decide), if_neg (by decide), if_neg h1, hb]
    rfl
  rw [e]
  refine ⟨⟨?_, ?_, ?_⟩, ?_, ?_⟩
  · dsimp only
    rw [op_files]
    exact h.fok.put ⟨bB, fresh, 0⟩ okB (Nat.zero_le _)
  · dsimp only
    rw [op_files]
    exact (find_put_other h.fok ⟨bB, fresh, 0⟩ okB (Nat.zero_le _) neAB).trans h.a
  · dsimp only
    rw [op_room]
    exact h.room
  · dsimp only
    rw [op_files]
    exact find_put_same h.fok ⟨bB, fresh, 0⟩ okB (Nat.zero_le _)
  · rcases op_cases { d with files := putF ⟨bB, fresh, 0⟩ d.files } hd with h | h
    · exact Or.inl ⟨h.2.1, h.2.2⟩
    · exact Or.inr h
theorem bes_sync {d : DkIn} {old fresh : List UInt8} (h : Bes d old) (hd : d.dead = false) (hb : find bB d.files = some ⟨bB, fresh, 0⟩) :
    Bes (syncV d bB).2 old ∧ (((syncV d bB).1 = 0 ∧ (syncV d bB).2.dead = false ∧ find bB (syncV d bB).2.files = some ⟨bB, fresh, fresh.length⟩) ∨ ((syncV d bB).1 = 14 ∧ (syncV d bB).2.dead = true)) := by
  obtain ⟨k1, k2⟩ := sync_keeps h.fok bB (m := aB) (by decide)
  have e : syncV d bB = ((opV d).2.1, if (opV d).1 then { (opV d).2.2 with files := putF ⟨bB, fresh, fresh.length⟩ (opV d).2.2.files } else (opV d).2.2) := by
    unfold syncV
    rw [hd, if_neg (by decide), hb]
  refine ⟨⟨k1, k2.trans h.a, ?_⟩, ?_⟩
  · rw [e]
    dsimp only
    split
    · exact (op_room d).trans h.room
    · exact (op_room d).trans h.room
  · rw [e]
    rcases op_cases d hd with ⟨o1, o2, o3⟩ | ⟨o1, o2⟩
    · refine Or.inl ⟨o2, ?_, ?_⟩
      · dsimp only
        rw [if_pos o1]
        exact o3
      · dsimp only
        rw [if_pos o1]
        dsimp only
        rw [op_files]
        exact find_put_same h.fok ⟨bB, fresh, fresh.length⟩ okB (Nat.le_refl _)
    · refine Or.inr ⟨o1, ?_⟩
      dsimp only
      split
      · exact o2
      · exact o2
theorem bes_rename {d : DkIn} {old fresh : List UInt8} (h : Bes d old) (hd : d.dead = false) (hb : find bB d.files = some ⟨bB, fresh, fresh.length⟩) :
    Fok (renameV d bB aB).2.files ∧ (((renameV d bB aB).1 = 0 ∧ find aB (renameV d bB aB).2.files = some ⟨aB, fresh, fresh.length⟩) ∨ ((renameV d bB aB).1 = 14 ∧ (find aB (renameV d bB aB).2.files = some ⟨aB, fresh, fresh.length⟩ ∨ find aB (renameV d bB aB).2.files = some ⟨aB, old, old.length⟩))) := by
  have e : renameV d bB aB = ((opV d).2.1, if (opV d).1 then { (opV d).2.2 with files := putF ⟨aB, fresh, fresh.length⟩ (del bB (opV d).2.2.files) } else (opV d).2.2) := by
    unfold renameV
    rw [hd, if_neg (by decide), if_neg (by decide), hb]
  have p1 : Fok (putF ⟨aB, fresh, fresh.length⟩ (del bB d.files)) := (h.fok.del bB).put ⟨aB, fresh, fresh.length⟩ okA (Nat.le_refl _)
  have p2 : find aB (putF ⟨aB, fresh, fresh.length⟩ (del bB d.files)) = some ⟨aB, fresh, fresh.length⟩ := find_put_same (h.fok.del bB) ⟨aB, fresh, fresh.length⟩ okA (Nat.le_refl _)
  rw [e]
  rcases op_cases d hd with ⟨o1, o2, o3⟩ | ⟨o1, o2⟩
  · dsimp only
    rw [if_pos o1]
    dsimp only
    rw [op_files]
    exact ⟨p1, Or.inl ⟨o2, p2⟩⟩
  · dsimp only
    split
    · dsimp only
      rw [op_files]
      exact ⟨p1, Or.inr ⟨o1, Or.inl p2⟩⟩
    · rw [op_files]
      exact ⟨h.fok, Or.inr ⟨o1, Or.inr h.a⟩⟩
/-- Behind the crash there is the elder or the new one, whole. -/
theorem beside_old {d : DkIn} {old : List UInt8} (h : Bes d old) (ho : 1 ≤ old.length) (keep : List Int) : readV (crashV d keep) aB = (old, 0) := whole_crash h.fok h.a ho keep
end Dsk
end Go.Proofs.Ytnbmjbelmcibgaa
