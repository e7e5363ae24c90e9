/- How large a disk grows by an act, in plain words. -/
import Derived.Test.YtnbmjbelmcibgaaDskO
set_option linter.unusedSimpArgs false
set_option linter.unusedVariables false
namespace Go.Proofs.Ytnbmjbelmcibgaa
open Go.RowKit Go.Great Go.Maps
namespace Dsk
theorem bytes_ins (f : FileIn) : ∀ l : List FileIn, bytesOf (ins f l) = f.by'.length + bytesOf l ∧ (ins f l).length = l.length + 1
  | [] => ⟨by simp [ins, bytesOf], rfl⟩
  | x :: l => by
    obtain ⟨h1, h2⟩ := bytes_ins f l
    unfold ins
    split
    · exact ⟨by simp [bytesOf], rfl⟩
    · refine ⟨?_, by simp [h2]⟩
      unfold bytesOf at h1 ⊢
      rw [List.map_cons, List.sum_cons, h1, List.map_cons, List.sum_cons]
      omega
theorem bytes_del (s : List UInt8) : ∀ l : List FileIn, bytesOf (del s l) ≤ bytesOf l ∧ (del s l).length ≤ l.length
  | [] => ⟨Nat.le_refl _, Nat.le_refl _⟩
  | x :: l => by
    obtain ⟨h1, h2⟩ := bytes_del s l
    unfold del bytesOf at *
    rw [List.filter_cons]
    split
    · simp only [List.map_cons, List.sum_cons, List.length_cons]
      omega
    · simp only [List.map_cons, List.sum_cons, List.length_cons]
      omega
theorem bytes_found {s : List UInt8} {f : FileIn} : ∀ {l : List FileIn}, find s l = some f → bytesOf (del s l) + f.by'.length ≤ bytesOf l ∧ (del s l).length + 1 ≤ l.length
  | [], h => by cases h
  | x :: l, h => by
    have hd := bytes_del s l
    unfold find at h
    rw [List.find?_cons] at h
    unfold del bytesOf at *
    by_cases hx : x.nm = s
    · rw [decide_eq_true hx] at h
      obtain rfl := Option.some.inj h
      rw [List.filter_cons_of_neg (by simp [hx])]
      simp only [List.map_cons, List.sum_cons, List.length_cons]
      omega
    · rw [decide_eq_false hx] at h
      have ih := bytes_found (s := s) (f := f) (l := l) h
      unfold del bytesOf at ih
      rw [List.filter_cons_of_pos (by simp [hx])]
      simp only [List.map_cons, List.sum_cons, List.length_cons]
      omega
theorem bytes_put (f : FileIn) (l : List FileIn) : bytesOf (putF f l) = f.by'.length + bytesOf (del f.nm l) ∧ (putF f l).length = (del f.nm l).length + 1 := bytes_ins f _
theorem bytes_crash (keep : List Int) : ∀ (l : List FileIn) (i : Nat), bytesOf (crashF keep i l) ≤ bytesOf l
  | [], i => Nat.le_refl _
  | f :: l, i => by
    have ih := bytes_crash keep l (i + 1)
    rw [crash_cons]
    unfold bytesOf at *
    split
    · simp only [List.map_cons, List.sum_cons]
      omega
    · simp only [List.map_cons, List.sum_cons, List.length_take]
      omega
theorem bytes_mem {f : FileIn} : ∀ {l : List FileIn}, f ∈ l → f.by'.length ≤ bytesOf l
  | [], h => by cases h
  | x :: l, h => by
    unfold bytesOf
    rw [List.map_cons, List.sum_cons]
    rcases List.mem_cons.1 h with rfl | h
    · omega
    · have := bytes_mem h
      unfold bytesOf at this
      omega
/-- How large a disk is. -/
structure Siz (d : DkIn) (k : Nat) : Prop where
  ok : Dok d
  len : d.files.length ≤ k
  by' : bytesOf d.files ≤ 200 * k
  ops : d.ops ≤ k
theorem Siz.lens {d : DkIn} {k : Nat} (h : Siz d k) (hk : k ≤ 1000) : (∀ f ∈ d.files, f.by'.length ≤ 1000000000) ∧ bytesOf d.files ≤ 1000000000 ∧ d.files.length < 100000 := by
  have h1 := h.by'
  have h2 := h.len
  refine ⟨fun f hf => ?_, by omega, by omega⟩
  have := bytes_mem hf
  omega
theorem Siz.mono {d : DkIn} {k k' : Nat} (h : Siz d k) (hk : k ≤ k') : Siz d k' := ⟨h.ok, Nat.le_trans h.len hk, by have := h.by'; omega, by have := h.ops; omega⟩
theorem op_ops (d : DkIn) : (opV d).2.2.ops = d.ops + 1 := by
  unfold opV
  dsimp only
  split
  · rfl
  · split <;> rfl
/-- An operation that turns the files so far. -/
theorem siz_op {d : DkIn} {k : Nat} (h : Siz d k) (hk : k ≤ 1000) {l : List FileIn} (hf : Fok l) (hl : l.length ≤ k + 1) (hb : bytesOf l ≤ 200 * k + 200) : Siz { (opV d).2.2 with files := l } (k + 1) := by
  have ho := h.ok.op (by have := h.ops; omega)
  refine ⟨⟨hf, ho.room, ho.ops, ho.last⟩, hl, by show bytesOf l ≤ _; omega, ?_⟩
  show (opV d).2.2.ops ≤ _
  rw [op_ops]
  have := h.ops
  omega
theorem siz_op0 {d : DkIn} {k : Nat} (h : Siz d k) (hk : k ≤ 1000) : Siz (opV d).2.2 (k + 1) := by
  have := siz_op h hk h.ok.fok (by have := h.len; omega) (by have := h.by'; omega)
  have e : ({ (opV d).2.2 with files := d.files } : DkIn) = (opV d).2.2 := by rw [← op_files d]
  rwa [e] at this
theorem siz_append {d : DkIn} {k : Nat} (h : Siz d k) (hk : k ≤ 1000) (s b : List UInt8) (hb : b.length ≤ 200) : Siz (appendV d s b).2 (k + 1) := by
  have hF := append_fok h.ok.fok s b
  unfold appendV at hF ⊢
  split
  · exact h.mono (by omega)
  · split
    · exact h.mono (by omega)
    · split
      · exact h.mono (by omega)
      · rename_i h1 h2 h3
        rw [if_neg h1, if_neg h2, if_neg h3] at hF
        dsimp only at hF ⊢
        have e : ∀ l : List FileIn, (opV { d with files := l }).2.2 = { (opV d).2.2 with files := l } := fun l => by
          unfold opV
          dsimp only
          split
          · rfl
          · split <;> rfl
        rw [e] at hF ⊢
        obtain ⟨p1, p2⟩ := bytes_put ⟨s, ((find s d.files).getD ⟨s, [], 0⟩).by' ++ b, ((find s d.files).getD ⟨s, [], 0⟩).sure⟩ d.files
        have hl := h.len
        have hby := h.by'
        dsimp only at p1 p2
        rw [List.length_append] at p1
        cases hf : find s d.files with
        | none =>
          rw [hf] at hF p1 p2
          have hd := bytes_del s d.files
          refine siz_op h hk hF (by omega) ?_
          rw [p1]
          show 0 + b.length + _ ≤ _
          omega
        | some f =>
          rw [hf] at hF p1 p2
          have hd := bytes_found hf
          refine siz_op h hk hF (by omega) ?_
          rw [p1]
          show f.by'.length + b.length + _ ≤ _
          omega
theorem siz_sync {d : DkIn} {k : Nat} (h : Siz d k) (hk : k ≤ 1000) (s : List UInt8) : Siz (syncV d s).2 (k + 1) := by
  have hF := (sync_keeps h.ok.fok s (m := s ++ [0]) (fun e => by have := congrArg List.length e; simp at this)).1
  unfold syncV at hF ⊢
  split
  · exact h.mono (by omega)
  · rename_i h1
    rw [if_neg h1] at hF
    cases hf : find s d.files with
    | none => exact h.mono (by omega)
    | some f =>
      rw [hf] at hF
      dsimp only at hF ⊢
      split
      · rename_i h2
        rw [if_pos h2] at hF
        rw [op_files] at hF ⊢
        obtain ⟨p1, p2⟩ := bytes_put ⟨s, f.by', f.by'.length⟩ d.files
        have hd := bytes_found hf
        have hl := h.len
        have hby := h.by'
        refine siz_op h hk hF (by dsimp only at p2; omega) ?_
        dsimp only at p1
        omega
      · exact siz_op0 h hk
theorem siz_cut {d : DkIn} {k : Nat} (h : Siz d k) (hk : k ≤ 1000) (s : List UInt8) (z : Int) : Siz (cutV d s z).2 (k + 1) := by
  have hF := (cut_keeps h.ok.fok s z (m := s ++ [0]) (fun e => by have := congrArg List.length e; simp at this)).1
  unfold cutV at hF ⊢
  split
  · exact h.mono (by omega)
  · rename_i h1
    rw [if_neg h1] at hF
    cases hf : find s d.files with
    | none => exact h.mono (by omega)
    | some f =>
      rw [hf] at hF
      dsimp only at hF ⊢
      split
      · exact h.mono (by omega)
      · rename_i h3
        rw [if_neg h3] at hF
        dsimp only at hF ⊢
        split
        · rename_i h2
          rw [if_pos h2] at hF
          rw [op_files] at hF ⊢
          obtain ⟨p1, p2⟩ := bytes_put ⟨s, f.by'.take z.toNat, min f.sure z.toNat⟩ d.files
          have hd := bytes_found hf
          have hl := h.len
          have hby := h.by'
          refine siz_op h hk hF (by dsimp only at p2; omega) ?_
          dsimp only at p1
          rw [List.length_take] at p1
          omega
        · exact siz_op0 h hk
theorem siz_rename {d : DkIn} {k : Nat} (h : Siz d k) (hk : k ≤ 1000) (s t : List UInt8) : Siz (renameV d s t).2 (k + 1) := by
  have hF := (rename_keeps h.ok.fok s t (m := s ++ t ++ [0]) (fun e => by have := congrArg List.length e; simp at this; try omega) (fun e => by have := congrArg List.length e; simp at this; try omega)).1
  unfold renameV at hF ⊢
  split
  · exact h.mono (by omega)
  · rename_i h1
    rw [if_neg h1] at hF
    split
    · exact h.mono (by omega)
    · rename_i h3
      rw [if_neg h3] at hF
      cases hf : find s d.files with
      | none => exact h.mono (by omega)
      | some f =>
        rw [hf] at hF
        dsimp only at hF ⊢
        split
        · rename_i h2
          rw [if_pos h2] at hF
          rw [op_files] at hF ⊢
          obtain ⟨p1, p2⟩ := bytes_put { f with nm := t } (del s d.files)
          have hd := bytes_found hf
          have hd2 := bytes_del t (del s d.files)
          have hl := h.len
          have hby := h.by'
          refine siz_op h hk hF (by dsimp only at p2; omega) ?_
          dsimp only at p1
          omega
        · exact siz_op0 h hk
/-- What is known of an act's numbers. -/
structure Few (a : ActIn) : Prop where
  name : a.name.length ≤ 40
  arg : a.arg.length ≤ 200
  keep : a.keep.length ≤ 20
  n : a.n ≤ 9223372036854775807
theorem siz_fuse {d : DkIn} {k : Nat} (h : Siz d k) (z : Int) (b : Bool) (hz : z ≤ 9223372036854775807) : Siz (fuseV d z b) k := by
  refine ⟨⟨h.ok.fok, h.ok.room, h.ok.ops, ?_⟩, h.len, h.by', h.ops⟩
  unfold fuseV
  dsimp only
  split <;> omega
theorem siz_crash {d : DkIn} {k : Nat} (h : Siz d k) (keep : List Int) : Siz (crashV d keep) k := by
  refine ⟨⟨h.ok.fok.crash keep, h.ok.room, h.ok.ops, ?_⟩, Nat.le_trans (crash_len keep d.files 0) h.len, Nat.le_trans (bytes_crash keep d.files 0) h.by', h.ops⟩
  show (0 : Int) ≤ 0 ∧ (0 : Int) ≤ _
  omega
theorem siz_do {d : DkIn} {k : Nat} (h : Siz d k) (hk : k ≤ 1000) (a : ActIn) (ha : Few a) : Siz (doV d a).2 (k + 1) := by
  unfold doV
  split
  · exact siz_append h hk _ _ ha.arg
  · split
    · exact siz_sync h hk _
    · split
      · exact siz_cut h hk _ _
      · split
        · exact siz_rename h hk _ _
        · split
          · exact (siz_fuse h _ _ ha.n).mono (by omega)
          · split
            · exact (siz_crash h _).mono (by omega)
            · exact h.mono (by omega)
end Dsk
end Go.Proofs.Ytnbmjbelmcibgaa
