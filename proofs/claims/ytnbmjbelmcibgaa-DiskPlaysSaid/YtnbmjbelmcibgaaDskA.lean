/- Acts on a disk, in plain words: what other files' acts leave. -/
import Derived.Test.YtnbmjbelmcibgaaDskL
set_option linter.unusedSimpArgs false
set_option linter.unusedVariables false
namespace Go.Proofs.Ytnbmjbelmcibgaa
open Go.RowKit
namespace Dsk
/-- An act that came in. -/
structure ActIn where
  kind : Int
  n : Int
  name : List UInt8
  arg : List UInt8
  half : Bool
  keep : List Int
/-- What is answered, and the disk behind it. -/
def doV (d : DkIn) (a : ActIn) : (List UInt8 × Int) × DkIn :=
  if a.kind = 1 then (([], (appendV d a.name a.arg).1), (appendV d a.name a.arg).2)
  else if a.kind = 2 then (([], (syncV d a.name).1), (syncV d a.name).2)
  else if a.kind = 3 then (([], (cutV d a.name a.n).1), (cutV d a.name a.n).2)
  else if a.kind = 4 then (([], (renameV d a.name a.arg).1), (renameV d a.name a.arg).2)
  else if a.kind = 5 then (([], 0), fuseV d a.n a.half)
  else if a.kind = 6 then (([], 0), crashV d a.keep)
  else (readV d a.name, d)
theorem op_files (d : DkIn) : (opV d).2.2.files = d.files := by
  unfold opV
  dsimp only
  split
  · rfl
  · split <;> rfl
theorem op_room (d : DkIn) : (opV d).2.2.room = d.room := by
  unfold opV
  dsimp only
  split
  · rfl
  · split <;> rfl
theorem find_fok {l : List FileIn} (h : Fok l) {s : List UInt8} {f : FileIn} (hf : find s l = some f) : f.nm = s ∧ isName s = true ∧ f.sure ≤ f.by'.length := by
  obtain ⟨h1, h2⟩ := (find_some h.rise s f).1 hf
  exact ⟨h2, by rw [← h2]; exact h.name f h1, h.sure f h1⟩
/-- What is put behind those of a file may be. -/
theorem more_ok {l : List FileIn} (h : Fok l) (s b : List UInt8) : ((find s l).getD ⟨s, [], 0⟩).sure ≤ (((find s l).getD ⟨s, [], 0⟩).by' ++ b).length := by
  rw [List.length_append]
  cases hq : find s l with
  | none => simp
  | some f =>
    have := (find_fok h hq).2.2
    simp
    omega
theorem append_fok {d : DkIn} (h : Fok d.files) (s b : List UInt8) : Fok (appendV d s b).2.files := by
  unfold appendV
  split
  · exact h
  · split
    · exact h
    · rename_i hn
      split
      · exact h
      · dsimp only
        rw [op_files]
        exact h.put _ (by simpa using hn) (more_ok h s b)
theorem append_find {d : DkIn} (h : Fok d.files) (s b : List UInt8) {m : List UInt8} (hm : m ≠ s) : find m (appendV d s b).2.files = find m d.files := by
  unfold appendV
  split
  · rfl
  · split
    · rfl
    · rename_i hn
      split
      · rfl
      · dsimp only
        rw [op_files]
        exact find_put_other h ⟨s, _, _⟩ (by simpa using hn) (more_ok h s b) hm
theorem sync_keeps {d : DkIn} (h : Fok d.files) (s : List UInt8) {m : List UInt8} (hm : m ≠ s) : Fok (syncV d s).2.files ∧ find m (syncV d s).2.files = find m d.files := by
  unfold syncV
  split
  · exact ⟨h, rfl⟩
  · split
    · exact ⟨h, rfl⟩
    · rename_i f hf
      obtain ⟨e1, e2, e3⟩ := find_fok h hf
      dsimp only
      split
      · dsimp only
        rw [op_files]
        exact ⟨h.put ⟨s, f.by', f.by'.length⟩ e2 (Nat.le_refl _), find_put_other h ⟨s, f.by', f.by'.length⟩ e2 (Nat.le_refl _) hm⟩
      · rw [op_files]
        exact ⟨h, rfl⟩
theorem cut_keeps {d : DkIn} (h : Fok d.files) (s : List UInt8) (n : Int) {m : List UInt8} (hm : m ≠ s) : Fok (cutV d s n).2.files ∧ find m (cutV d s n).2.files = find m d.files := by
  unfold cutV
  split
  · exact ⟨h, rfl⟩
  · split
    · exact ⟨h, rfl⟩
    · rename_i f hf
      obtain ⟨e1, e2, e3⟩ := find_fok h hf
      split
      · exact ⟨h, rfl⟩
      · rename_i hn
        dsimp only
        split
        · dsimp only
          rw [op_files]
          have hs : min f.sure n.toNat ≤ (f.by'.take n.toNat).length := by rw [List.length_take]; omega
          exact ⟨h.put ⟨s, f.by'.take n.toNat, min f.sure n.toNat⟩ e2 hs, find_put_other h ⟨s, f.by'.take n.toNat, min f.sure n.toNat⟩ e2 hs hm⟩
        · rw [op_files]
          exact ⟨h, rfl⟩
theorem rename_keeps {d : DkIn} (h : Fok d.files) (s t : List UInt8) {m : List UInt8} (hm : m ≠ s) (ht : m ≠ t) : Fok (renameV d s t).2.files ∧ find m (renameV d s t).2.files = find m d.files := by
  unfold renameV
  split
  · exact ⟨h, rfl⟩
  · split
    · exact ⟨h, rfl⟩
    · rename_i hn
      split
      · exact ⟨h, rfl⟩
      · rename_i f hf
        obtain ⟨e1, e2, e3⟩ := find_fok h hf
        have hn' : isName t = true := by simpa using hn
        dsimp only
        split
        · dsimp only
          rw [op_files]
          exact ⟨(h.del s).put { f with nm := t } hn' e3, (find_put_other (h.del s) { f with nm := t } hn' e3 ht).trans (find_del_other h hm)⟩
        · rw [op_files]
          exact ⟨h, rfl⟩
/-- An act of other names leaves a file as it is. -/
theorem do_keeps {d : DkIn} (h : Fok d.files) (a : ActIn) {m : List UInt8} (h1 : a.name ≠ m) (h2 : a.arg ≠ m) (h6 : a.kind ≠ 6) : Fok (doV d a).2.files ∧ find m (doV d a).2.files = find m d.files := by
  unfold doV
  split
  · exact ⟨append_fok h _ _, append_find h _ _ fun e => h1 e.symm⟩
  · split
    · exact sync_keeps h _ fun e => h1 e.symm
    · split
      · exact cut_keeps h _ _ fun e => h1 e.symm
      · split
        · exact rename_keeps h _ _ (fun e => h1 e.symm) fun e => h2 e.symm
        · split
          · exact ⟨h, rfl⟩
          · first
              | (split; rename_i h; exact absurd h h6; exact ⟨‹Fok d.files›, rfl⟩)
              | exact ⟨h, rfl⟩
end Dsk
end Go.Proofs.Ytnbmjbelmcibgaa
