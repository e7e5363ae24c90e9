/- Texts put together: DskP, DskL, DskA, DskW, DskX, DskM, Own, OrdU, OrdV. -/
import Derived.Test.YteaikleofboknaaChecked
import Derived.Maps.Views
import Derived.ProofKit
import Derived.WideAt
import Derived.WideShapes
import Derived.WalkKit
import Derived.Below
import Derived.Deep.AppendLies
import Derived.Deep.RegionLaw
import Derived.Laws.IdiomStrings
import Derived.Laws.BytesArg
import Derived.Lib.Hide
import Derived.WalkLawsBesides
import Derived.Laws.DeepStrings4
import Derived.WalkSmall
import Derived.Deep.RegionHeld3
set_option linter.all false
section
namespace Go.Proofs.Yteaikleofboknaa
open Go.RowKit
namespace Dsk
/-- A file: its name, its bytes; so many of these are sure. -/
structure FileIn where
  nm : List UInt8
  by' : List UInt8
  sure : Nat
deriving DecidableEq
/-- A disk: its files rise by their names. -/
structure DkIn where
  files : List FileIn
  room : Int
  ops : Int
  last : Int
  half : Bool
  dead : Bool
/-- A file among those that rise. -/
def ins (f : FileIn) : List FileIn → List FileIn
  | [] => [f]
  | x :: l => if bytesBefore f.nm x.nm then f :: x :: l else x :: ins f l
def del (s : List UInt8) (l : List FileIn) : List FileIn := l.filter fun x => !decide (x.nm = s)
def putF (f : FileIn) (l : List FileIn) : List FileIn := ins f (del f.nm l)
def find (s : List UInt8) (l : List FileIn) : Option FileIn := l.find? fun x => decide (x.nm = s)
/-- Is a text a name? -/
def letter (b : UInt8) : Bool := decide (b = 46) || (decide (97 ≤ b.toNat) && decide (b.toNat ≤ 122))
def isName (s : List UInt8) : Bool := s.all letter && decide (1 ≤ s.length) && decide (s.length ≤ 12)
def bytesOf (l : List FileIn) : Nat := (l.map fun f => f.by'.length).sum
/-- A disk that stands still has nothing. -/
def usedV (d : DkIn) : Int := if d.dead then 0 else bytesOf d.files
/-- An operation is counted: whether it is done, what is answered. -/
def opV (d : DkIn) : Bool × Int × DkIn :=
  let d1 := { d with ops := d.ops + 1 }
  if d.last = 0 then (true, 0, d1)
  else if 0 < d.last - 1 then (true, 0, { d1 with last := d.last - 1 })
  else (d.half, 14, { d1 with last := d.last - 1, dead := true })
def appendV (d : DkIn) (s b : List UInt8) : Int × DkIn :=
  if d.dead then (14, d)
  else if isName s = false then (1, d)
  else if d.room - usedV d < b.length then (4, d)
  else
    let f := (find s d.files).getD ⟨s, [], 0⟩
    let r := opV { d with files := putF ⟨s, f.by' ++ b, f.sure⟩ d.files }
    (r.2.1, r.2.2)
def syncV (d : DkIn) (s : List UInt8) : Int × DkIn :=
  if d.dead then (14, d)
  else match find s d.files with
    | none => (3, d)
    | some f =>
      let r := opV d
      (r.2.1, if r.1 then { r.2.2 with files := putF ⟨s, f.by', f.by'.length⟩ r.2.2.files } else r.2.2)
def cutV (d : DkIn) (s : List UInt8) (n : Int) : Int × DkIn :=
  if d.dead then (14, d)
  else match find s d.files with
    | none => (3, d)
    | some f =>
      if n < 0 ∨ (f.by'.length : Int) < n then (1, d)
      else
        let r := opV d
        (r.2.1, if r.1 then { r.2.2 with files := putF ⟨s, f.by'.take n.toNat, min f.sure n.toNat⟩ r.2.2.files } else r.2.2)
def renameV (d : DkIn) (s t : List UInt8) : Int × DkIn :=
  if d.dead then (14, d)
  else if isName t = false then (1, d)
  else match find s d.files with
    | none => (3, d)
    | some f =>
      let r := opV d
      (r.2.1, if r.1 then { r.2.2 with files := putF { f with nm := t } (del s r.2.2.files) } else r.2.2)
def readV (d : DkIn) (s : List UInt8) : List UInt8 × Int :=
  if d.dead then ([], 14)
  else match find s d.files with
    | none => ([], 3)
    | some f => (f.by', 0)
def namesV (d : DkIn) : List (List UInt8) := if d.dead then [] else d.files.map fun f => f.nm
def fuseV (d : DkIn) (n : Int) (half : Bool) : DkIn := { d with last := if 0 < n then n else 0, half := half }
/-- What a number tells to keep. -/
def keepOf (k : Int) (room : Nat) : Nat := (k % 4611686018427387904).toNat % (room + 1)
/-- How many bytes of a file are left by a crash. -/
def leftOf (keep : List Int) (i : Nat) (f : FileIn) : Nat := f.sure + (match keep[i]? with | some k => keepOf k (f.by'.length - f.sure) | none => 0)
def crashF (keep : List Int) : Nat → List FileIn → List FileIn
  | _, [] => []
  | i, f :: l => let n := leftOf keep i f; if n = 0 then crashF keep (i + 1) l else ⟨f.nm, f.by'.take n, n⟩ :: crashF keep (i + 1) l
def crashV (d : DkIn) (keep : List Int) : DkIn := { d with files := crashF keep 0 d.files, dead := false, last := 0 }
/-- The files rise, each may be. -/
structure Fok (l : List FileIn) : Prop where
  rise : l.Pairwise fun a b => bytesBefore a.nm b.nm = true
  name : ∀ f ∈ l, isName f.nm = true
  sure : ∀ f ∈ l, f.sure ≤ f.by'.length
end Dsk
end Go.Proofs.Yteaikleofboknaa
end
section
namespace Go.Proofs.Yteaikleofboknaa
open Go.RowKit
namespace Dsk
theorem mem_ins (f x : FileIn) : ∀ l : List FileIn, x ∈ ins f l ↔ x = f ∨ x ∈ l
  | [] => by simp [ins]
  | y :: l => by
    unfold ins
    split
    · simp
    · simp [mem_ins f x l]
      exact ⟨fun h => by rcases h with h | h | h <;> simp [h], fun h => by rcases h with h | h | h <;> simp [h]⟩
theorem mem_del (s : List UInt8) (x : FileIn) (l : List FileIn) : x ∈ del s l ↔ x ∈ l ∧ x.nm ≠ s := by simp [del]
theorem mem_put (f x : FileIn) (l : List FileIn) : x ∈ putF f l ↔ x = f ∨ (x ∈ l ∧ x.nm ≠ f.nm) := by
  unfold putF
  rw [mem_ins, mem_del]
theorem rise_ins (f : FileIn) : ∀ l : List FileIn, (l.Pairwise fun a b => bytesBefore a.nm b.nm = true) → (∀ x ∈ l, x.nm ≠ f.nm) → (ins f l).Pairwise fun a b => bytesBefore a.nm b.nm = true
  | [], _, _ => by simp [ins]
  | y :: l, h, hn => by
    obtain ⟨h1, h2⟩ := List.pairwise_cons.1 h
    unfold ins
    split
    · rename_i hb
      refine List.pairwise_cons.2 ⟨fun z hz => ?_, h⟩
      rcases List.mem_cons.1 hz with rfl | hz
      · exact hb
      · exact WideShapes.bytes_trans _ _ _ hb (h1 z hz)
    · rename_i hb
      refine List.pairwise_cons.2 ⟨fun z hz => ?_, rise_ins f l h2 fun x hx => hn x (List.mem_cons_of_mem _ hx)⟩
      rcases (mem_ins f z l).1 hz with rfl | hz
      · rcases WideAt.bytes_total y.nm z.nm (hn y (List.mem_cons_self ..)) with h | h
        · exact h
        · exact absurd h hb
      · exact h1 z hz
theorem rise_del (s : List UInt8) {l : List FileIn} (h : l.Pairwise fun a b => bytesBefore a.nm b.nm = true) : (del s l).Pairwise fun a b => bytesBefore a.nm b.nm = true := h.sublist List.filter_sublist
theorem Fok.del {l : List FileIn} (h : Fok l) (s : List UInt8) : Fok (del s l) :=
  ⟨rise_del s h.rise, fun f hf => h.name f ((mem_del s f l).1 hf).1, fun f hf => h.sure f ((mem_del s f l).1 hf).1⟩
theorem Fok.put {l : List FileIn} (h : Fok l) (f : FileIn) (hn : isName f.nm = true) (hs : f.sure ≤ f.by'.length) : Fok (putF f l) := by
  refine ⟨rise_ins f _ (rise_del f.nm h.rise) fun x hx => ((mem_del f.nm x l).1 hx).2, fun x hx => ?_, fun x hx => ?_⟩
  · rcases (mem_put f x l).1 hx with rfl | hx
    · exact hn
    · exact h.name x hx.1
  · rcases (mem_put f x l).1 hx with rfl | hx
    · exact hs
    · exact h.sure x hx.1
/-- Of a name there is one file. -/
theorem rise_one {l : List FileIn} (h : l.Pairwise fun a b => bytesBefore a.nm b.nm = true) {x y : FileIn} (hx : x ∈ l) (hy : y ∈ l) (e : x.nm = y.nm) : x = y := by
  induction l with
  | nil => cases hx
  | cons z l ih =>
    obtain ⟨h1, h2⟩ := List.pairwise_cons.1 h
    rcases List.mem_cons.1 hx with hx | hx <;> rcases List.mem_cons.1 hy with hy | hy
    · rw [hx, hy]
    · have := h1 y hy
      rw [← hx, e, WideAt.bytes_irrefl] at this
      cases this
    · have := h1 x hx
      rw [← hy, ← e, WideAt.bytes_irrefl] at this
      cases this
    · exact ih h2 hx hy
theorem find_some {l : List FileIn} (h : l.Pairwise fun a b => bytesBefore a.nm b.nm = true) (s : List UInt8) (f : FileIn) : find s l = some f ↔ f ∈ l ∧ f.nm = s := by
  unfold find
  constructor
  · intro e
    exact ⟨List.mem_of_find?_eq_some e, by simpa using List.find?_some e⟩
  · rintro ⟨hf, e⟩
    cases hq : l.find? fun x => decide (x.nm = s) with
    | none =>
      have := List.find?_eq_none.1 hq f hf
      simp [e] at this
    | some g =>
      have hg := List.mem_of_find?_eq_some hq
      have eg : g.nm = s := by simpa using List.find?_some hq
      rw [rise_one h hf hg (e.trans eg.symm)]
theorem find_none {l : List FileIn} (s : List UInt8) : find s l = none ↔ ∀ f ∈ l, f.nm ≠ s := by
  unfold find
  rw [List.find?_eq_none]
  simp
theorem find_put_same {l : List FileIn} (h : Fok l) (f : FileIn) (hn : isName f.nm = true) (hs : f.sure ≤ f.by'.length) : find f.nm (putF f l) = some f :=
  (find_some (h.put f hn hs).rise f.nm f).2 ⟨(mem_put f f l).2 (Or.inl rfl), rfl⟩
theorem find_put_other {l : List FileIn} (h : Fok l) (f : FileIn) (hn : isName f.nm = true) (hs : f.sure ≤ f.by'.length) {s : List UInt8} (hne : s ≠ f.nm) : find s (putF f l) = find s l := by
  cases hq : find s l with
  | none =>
    rw [find_none] at hq ⊢
    intro x hx
    rcases (mem_put f x l).1 hx with rfl | hx
    · exact fun e => hne e.symm
    · exact hq x hx.1
  | some g =>
    obtain ⟨h1, h2⟩ := (find_some h.rise s g).1 hq
    exact (find_some (h.put f hn hs).rise s g).2 ⟨(mem_put f g l).2 (Or.inr ⟨h1, by rw [h2]; exact hne⟩), h2⟩
theorem find_del_same (s : List UInt8) (l : List FileIn) : find s (del s l) = none := by
  rw [find_none]
  exact fun f hf => ((mem_del s f l).1 hf).2
theorem find_del_other {l : List FileIn} (h : Fok l) {s t : List UInt8} (hne : t ≠ s) : find t (del s l) = find t l := by
  cases hq : find t l with
  | none =>
    rw [find_none] at hq ⊢
    exact fun x hx => hq x ((mem_del s x l).1 hx).1
  | some g =>
    obtain ⟨h1, h2⟩ := (find_some h.rise t g).1 hq
    exact (find_some (h.del s).rise t g).2 ⟨(mem_del s g l).2 ⟨h1, by rw [h2]; exact hne⟩, h2⟩
/-- What a crash leaves of a file. -/
theorem crash_mem (keep : List Int) : ∀ (l : List FileIn) (i : Nat) (g : FileIn), g ∈ crashF keep i l → ∃ f ∈ l, ∃ j, g = ⟨f.nm, f.by'.take (leftOf keep j f), leftOf keep j f⟩ ∧ leftOf keep j f ≠ 0
  | [], _, g, h => by cases h
  | f :: l, i, g, h => by
    unfold crashF at h
    dsimp only at h
    split at h
    · obtain ⟨x, hx, j, h1, h2⟩ := crash_mem keep l (i + 1) g h
      exact ⟨x, List.mem_cons_of_mem _ hx, j, h1, h2⟩
    · rename_i hne
      rcases List.mem_cons.1 h with rfl | h
      · exact ⟨f, List.mem_cons_self .., i, rfl, hne⟩
      · obtain ⟨x, hx, j, h1, h2⟩ := crash_mem keep l (i + 1) g h
        exact ⟨x, List.mem_cons_of_mem _ hx, j, h1, h2⟩
theorem crash_all (keep : List Int) : ∀ (l : List FileIn) (i : Nat) (f : FileIn), f ∈ l → ∃ j, leftOf keep j f = 0 ∨ (⟨f.nm, f.by'.take (leftOf keep j f), leftOf keep j f⟩ : FileIn) ∈ crashF keep i l
  | [], _, f, h => by cases h
  | y :: l, i, f, h => by
    rcases List.mem_cons.1 h with rfl | h
    · refine ⟨i, ?_⟩
      unfold crashF
      dsimp only
      split
      · rename_i h0
        exact Or.inl h0
      · exact Or.inr (List.mem_cons_self ..)
    · obtain ⟨j, hj⟩ := crash_all keep l (i + 1) f h
      refine ⟨j, hj.imp id fun hm => ?_⟩
      unfold crashF
      dsimp only
      split
      · exact hm
      · exact List.mem_cons_of_mem _ hm
theorem left_le (keep : List Int) (i : Nat) (f : FileIn) (h : f.sure ≤ f.by'.length) : f.sure ≤ leftOf keep i f ∧ leftOf keep i f ≤ f.by'.length := by
  unfold leftOf
  split
  · unfold keepOf
    rename_i k hk
    have hm := Nat.mod_lt ((k % 4611686018427387904).toNat) (show 0 < f.by'.length - f.sure + 1 by omega)
    obtain ⟨y, hy⟩ : ∃ y, (k % 4611686018427387904).toNat % (f.by'.length - f.sure + 1) = y := ⟨_, rfl⟩
    rw [hy] at hm ⊢
    omega
  · omega
theorem crash_rise (keep : List Int) : ∀ (l : List FileIn) (i : Nat), (l.Pairwise fun a b => bytesBefore a.nm b.nm = true) → (crashF keep i l).Pairwise fun a b => bytesBefore a.nm b.nm = true
  | [], _, _ => by simp [crashF]
  | f :: l, i, h => by
    obtain ⟨h1, h2⟩ := List.pairwise_cons.1 h
    unfold crashF
    dsimp only
    split
    · exact crash_rise keep l (i + 1) h2
    · refine List.pairwise_cons.2 ⟨fun g hg => ?_, crash_rise keep l (i + 1) h2⟩
      obtain ⟨x, hx, j, e, _⟩ := crash_mem keep l (i + 1) g hg
      rw [e]
      exact h1 x hx
theorem Fok.crash {l : List FileIn} (h : Fok l) (keep : List Int) : Fok (crashF keep 0 l) := by
  refine ⟨crash_rise keep l 0 h.rise, fun g hg => ?_, fun g hg => ?_⟩
  · obtain ⟨x, hx, j, e, _⟩ := crash_mem keep l 0 g hg
    rw [e]
    exact h.name x hx
  · obtain ⟨x, hx, j, e, _⟩ := crash_mem keep l 0 g hg
    rw [e]
    have := left_le keep j x (h.sure x hx)
    show leftOf keep j x ≤ (x.by'.take (leftOf keep j x)).length
    rw [List.length_take]
    omega
/-- Behind a crash a file has what was sure, and of the others the first bytes, some. -/
theorem crash_find {l : List FileIn} (h : Fok l) (keep : List Int) (f : FileIn) (hf : find f.nm l = some f) : ∃ n, f.sure ≤ n ∧ n ≤ f.by'.length ∧ find f.nm (crashF keep 0 l) = if n = 0 then none else some ⟨f.nm, f.by'.take n, n⟩ := by
  obtain ⟨hm, _⟩ := (find_some h.rise _ _).1 hf
  have hle := fun j => left_le keep j f (h.sure f hm)
  cases hq : find f.nm (crashF keep 0 l) with
  | none =>
    obtain ⟨j, hj | hj⟩ := crash_all keep l 0 f hm
    · exact ⟨0, by have := hle j; omega, by omega, by rw [if_pos rfl]⟩
    · exact absurd rfl ((find_none f.nm).1 hq ⟨f.nm, f.by'.take (leftOf keep j f), leftOf keep j f⟩ hj)
  | some g =>
    obtain ⟨hg, e⟩ := (find_some (h.crash keep).rise _ _).1 hq
    obtain ⟨x, hx, j, e2, hne⟩ := crash_mem keep l 0 g hg
    have ex : x = f := rise_one h.rise hx hm (by rw [← e, e2])
    subst ex
    exact ⟨leftOf keep j x, (hle j).1, (hle j).2, by rw [if_neg hne, e2]⟩
theorem crash_gone {l : List FileIn} (h : Fok l) (keep : List Int) {s : List UInt8} (hf : find s l = none) : find s (crashF keep 0 l) = none := by
  rw [find_none] at hf ⊢
  intro g hg
  obtain ⟨x, hx, j, e, _⟩ := crash_mem keep l 0 g hg
  rw [e]
  exact hf x hx
end Dsk
end Go.Proofs.Yteaikleofboknaa
end
section
namespace Go.Proofs.Yteaikleofboknaa
open Go.RowKit
namespace Dsk
/-- An act that came in. -/
structure ActIn where
  kind : Int
  n : Int
  name : List UInt8
  arg : List UInt8
  half : Bool
  keep : List Int
/-- What is answered, and the disk behind it. -/
def doV (d : DkIn) (a : ActIn) : (List UInt8 × Int) × DkIn :=
  if a.kind = 1 then (([], (appendV d a.name a.arg).1), (appendV d a.name a.arg).2)
  else if a.kind = 2 then (([], (syncV d a.name).1), (syncV d a.name).2)
  else if a.kind = 3 then (([], (cutV d a.name a.n).1), (cutV d a.name a.n).2)
  else if a.kind = 4 then (([], (renameV d a.name a.arg).1), (renameV d a.name a.arg).2)
  else if a.kind = 5 then (([], 0), fuseV d a.n a.half)
  else if a.kind = 6 then (([], 0), crashV d a.keep)
  else (readV d a.name, d)
theorem op_files (d : DkIn) : (opV d).2.2.files = d.files := by
  unfold opV
  dsimp only
  split
  · rfl
  · split <;> rfl
theorem op_room (d : DkIn) : (opV d).2.2.room = d.room := by
  unfold opV
  dsimp only
  split
  · rfl
  · split <;> rfl
theorem find_fok {l : List FileIn} (h : Fok l) {s : List UInt8} {f : FileIn} (hf : find s l = some f) : f.nm = s ∧ isName s = true ∧ f.sure ≤ f.by'.length := by
  obtain ⟨h1, h2⟩ := (find_some h.rise s f).1 hf
  exact ⟨h2, by rw [← h2]; exact h.name f h1, h.sure f h1⟩
/-- What is put behind those of a file may be. -/
theorem more_ok {l : List FileIn} (h : Fok l) (s b : List UInt8) : ((find s l).getD ⟨s, [], 0⟩).sure ≤ (((find s l).getD ⟨s, [], 0⟩).by' ++ b).length := by
  rw [List.length_append]
  cases hq : find s l with
  | none => simp
  | some f =>
    have := (find_fok h hq).2.2
    simp
    omega
theorem append_fok {d : DkIn} (h : Fok d.files) (s b : List UInt8) : Fok (appendV d s b).2.files := by
  unfold appendV
  split
  · exact h
  · split
    · exact h
    · rename_i hn
      split
      · exact h
      · dsimp only
        rw [op_files]
        exact h.put _ (by simpa using hn) (more_ok h s b)
theorem append_find {d : DkIn} (h : Fok d.files) (s b : List UInt8) {m : List UInt8} (hm : m ≠ s) : find m (appendV d s b).2.files = find m d.files := by
  unfold appendV
  split
  · rfl
  · split
    · rfl
    · rename_i hn
      split
      · rfl
      · dsimp only
        rw [op_files]
        exact find_put_other h ⟨s, _, _⟩ (by simpa using hn) (more_ok h s b) hm
theorem sync_keeps {d : DkIn} (h : Fok d.files) (s : List UInt8) {m : List UInt8} (hm : m ≠ s) : Fok (syncV d s).2.files ∧ find m (syncV d s).2.files = find m d.files := by
  unfold syncV
  split
  · exact ⟨h, rfl⟩
  · split
    · exact ⟨h, rfl⟩
    · rename_i f hf
      obtain ⟨e1, e2, e3⟩ := find_fok h hf
      dsimp only
      split
      · dsimp only
        rw [op_files]
        exact ⟨h.put ⟨s, f.by', f.by'.length⟩ e2 (Nat.le_refl _), find_put_other h ⟨s, f.by', f.by'.length⟩ e2 (Nat.le_refl _) hm⟩
      · rw [op_files]
        exact ⟨h, rfl⟩
theorem cut_keeps {d : DkIn} (h : Fok d.files) (s : List UInt8) (n : Int) {m : List UInt8} (hm : m ≠ s) : Fok (cutV d s n).2.files ∧ find m (cutV d s n).2.files = find m d.files := by
  unfold cutV
  split
  · exact ⟨h, rfl⟩
  · split
    · exact ⟨h, rfl⟩
    · rename_i f hf
      obtain ⟨e1, e2, e3⟩ := find_fok h hf
      split
      · exact ⟨h, rfl⟩
      · rename_i hn
        dsimp only
        split
        · dsimp only
          rw [op_files]
          have hs : min f.sure n.toNat ≤ (f.by'.take n.toNat).length := by rw [List.length_take]; omega
          exact ⟨h.put ⟨s, f.by'.take n.toNat, min f.sure n.toNat⟩ e2 hs, find_put_other h ⟨s, f.by'.take n.toNat, min f.sure n.toNat⟩ e2 hs hm⟩
        · rw [op_files]
          exact ⟨h, rfl⟩
theorem rename_keeps {d : DkIn} (h : Fok d.files) (s t : List UInt8) {m : List UInt8} (hm : m ≠ s) (ht : m ≠ t) : Fok (renameV d s t).2.files ∧ find m (renameV d s t).2.files = find m d.files := by
  unfold renameV
  split
  · exact ⟨h, rfl⟩
  · split
    · exact ⟨h, rfl⟩
    · rename_i hn
      split
      · exact ⟨h, rfl⟩
      · rename_i f hf
        obtain ⟨e1, e2, e3⟩ := find_fok h hf
        have hn' : isName t = true := by simpa using hn
        dsimp only
        split
        · dsimp only
          rw [op_files]
          exact ⟨(h.del s).put { f with nm := t } hn' e3, (find_put_other (h.del s) { f with nm := t } hn' e3 ht).trans (find_del_other h hm)⟩
        · rw [op_files]
          exact ⟨h, rfl⟩
/-- An act of other names leaves a file as it is. -/
theorem do_keeps {d : DkIn} (h : Fok d.files) (a : ActIn) {m : List UInt8} (h1 : a.name ≠ m) (h2 : a.arg ≠ m) (h6 : a.kind ≠ 6) : Fok (doV d a).2.files ∧ find m (doV d a).2.files = find m d.files := by
  unfold doV
  split
  · exact ⟨append_fok h _ _, append_find h _ _ fun e => h1 e.symm⟩
  · split
    · exact sync_keeps h _ fun e => h1 e.symm
    · split
      · exact cut_keeps h _ _ fun e => h1 e.symm
      · split
        · exact rename_keeps h _ _ (fun e => h1 e.symm) fun e => h2 e.symm
        · split
          · exact ⟨h, rfl⟩
          · first
              | (split; rename_i h; exact absurd h h6; exact ⟨‹Fok d.files›, rfl⟩)
              | exact ⟨h, rfl⟩
end Dsk
end Go.Proofs.Yteaikleofboknaa
end
section
namespace Go.Proofs.Yteaikleofboknaa
open Go.RowKit
namespace Dsk
def mineB : List UInt8 := [109, 105, 110, 101]
def aB : List UInt8 := [97]
def bB : List UInt8 := [98]
/-- A disk as it is made. -/
def newD (room : Int) : DkIn := ⟨[], room, 0, 0, false, false⟩
/-- A disk with one file. -/
def oneD (s : List UInt8) (b : List UInt8) (sure : Nat) (ops : Int) : DkIn := ⟨[⟨s, b, sure⟩], 65536, ops, 0, false, false⟩
theorem new_append (s b : List UInt8) (hs : isName s = true) (hb : b.length ≤ 200) : appendV (newD 65536) s b = (0, oneD s b 0 1) := by
  have h1 : ¬ ((newD 65536).room - usedV (newD 65536) < (b.length : Int)) := by
    show ¬ (65536 - (0 : Int) < (b.length : Int))
    omega
  unfold appendV
  rw [if_neg (show ¬ (newD 65536).dead = true from fun h => by cases h), if_neg (by rw [hs]; decide), if_neg h1]
  rfl
theorem one_find (s b : List UInt8) (n : Nat) (o : Int) : find s (oneD s b n o).files = some ⟨s, b, n⟩ := by
  unfold find oneD
  simp
theorem one_put (s b c : List UInt8) (n m : Nat) (o : Int) : putF ⟨s, c, m⟩ (oneD s b n o).files = [⟨s, c, m⟩] := by
  unfold putF del oneD
  simp [ins]
theorem one_sync (s b : List UInt8) (n : Nat) (o : Int) : syncV (oneD s b n o) s = (0, oneD s b b.length (o + 1)) := by
  unfold syncV
  rw [if_neg (show ¬ (oneD s b n o).dead = true from fun h => by cases h), one_find]
  dsimp only
  have e : opV (oneD s b n o) = (true, 0, oneD s b n (o + 1)) := rfl
  rw [e]
  dsimp only
  rw [if_pos rfl, one_put]
  rfl
theorem one_append (s b c : List UInt8) (n : Nat) (o : Int) (hs : isName s = true) (hb : b.length ≤ 200) (hc : c.length ≤ 200) : appendV (oneD s b n o) s c = (0, oneD s (b ++ c) n (o + 1)) := by
  have h1 : ¬ ((oneD s b n o).room - usedV (oneD s b n o) < (c.length : Int)) := by
    have : usedV (oneD s b n o) = (b.length : Int) := by unfold usedV oneD bytesOf; simp
    rw [this]
    show ¬ ((65536 : Int) - (b.length : Int) < (c.length : Int))
    omega
  unfold appendV
  rw [if_neg (show ¬ (oneD s b n o).dead = true from fun h => by cases h), if_neg (by rw [hs]; decide), if_neg h1, one_find]
  dsimp only
  rw [Option.getD_some, one_put]
  rfl
theorem one_fok (s b : List UInt8) (n : Nat) (o : Int) (hs : isName s = true) (hn : n ≤ b.length) : Fok (oneD s b n o).files :=
  ⟨by simp [oneD], fun f hf => by simp [oneD] at hf; rw [hf]; exact hs, fun f hf => by simp [oneD] at hf; rw [hf]; exact hn⟩
/-- Acts, one behind the other; those of a name are left out. -/
def others (m : List UInt8) (a : ActIn) : Bool := !decide (a.name = m) && !decide (a.arg = m) && !decide (a.kind = 6)
def runV (m : List UInt8) (d : DkIn) : List ActIn → DkIn
  | [] => d
  | a :: l => runV m (if others m a = true then (doV d a).2 else d) l
theorem run_keeps (m : List UInt8) : ∀ (l : List ActIn) (d : DkIn), Fok d.files → Fok (runV m d l).files ∧ find m (runV m d l).files = find m d.files
  | [], d, h => ⟨h, rfl⟩
  | a :: l, d, h => by
    unfold runV
    by_cases ho : others m a = true
    · rw [if_pos ho]
      unfold others at ho
      simp at ho
      obtain ⟨h1, h2⟩ := do_keeps h a (m := m) ho.1.1 ho.1.2 ho.2
      obtain ⟨h3, h4⟩ := run_keeps m l _ h1
      exact ⟨h3, h4.trans h2⟩
    · rw [if_neg ho]
      exact run_keeps m l d h
/-- What was sure is there behind any crash. -/
theorem sure_law (sure more : List UInt8) (d : DkIn) (h : Fok d.files) (hf : find mineB d.files = some ⟨mineB, sure ++ more, sure.length⟩) (keep : List Int) :
    (readV (crashV d keep) mineB = ([], 3) ∧ sure = []) ∨ ∃ n, sure.length ≤ n ∧ 1 ≤ n ∧ n ≤ (sure ++ more).length ∧ readV (crashV d keep) mineB = ((sure ++ more).take n, 0) := by
  obtain ⟨n, h1, h2, h3⟩ := crash_find h keep ⟨mineB, sure ++ more, sure.length⟩ hf
  dsimp only at h1 h2 h3
  have hc : (crashV d keep).files = crashF keep 0 d.files := rfl
  have hd : (crashV d keep).dead = false := rfl
  unfold readV
  rw [hd, if_neg (by decide), hc, h3]
  by_cases hn : n = 0
  · rw [if_pos hn]
    exact Or.inl ⟨rfl, List.eq_nil_of_length_eq_zero (by omega)⟩
  · rw [if_neg hn]
    exact Or.inr ⟨n, h1, by omega, h2, rfl⟩
/-- A file all of which is sure is there whole behind any crash. -/
theorem whole_crash {d : DkIn} (h : Fok d.files) {s b : List UInt8} (hf : find s d.files = some ⟨s, b, b.length⟩) (hb : 1 ≤ b.length) (keep : List Int) : readV (crashV d keep) s = (b, 0) := by
  obtain ⟨n, h1, h2, h3⟩ := crash_find h keep ⟨s, b, b.length⟩ hf
  dsimp only at h1 h2 h3
  have hn : n = b.length := by omega
  have hc : (crashV d keep).files = crashF keep 0 d.files := rfl
  have hd : (crashV d keep).dead = false := rfl
  unfold readV
  rw [hd, if_neg (by decide), hc, h3, if_neg (by omega), hn]
  simp
end Dsk
end Go.Proofs.Yteaikleofboknaa
end
section
namespace Go.Proofs.Yteaikleofboknaa
open Go.RowKit
namespace Dsk
theorem op_cases (d : DkIn) (hd : d.dead = false) : ((opV d).1 = true ∧ (opV d).2.1 = 0 ∧ (opV d).2.2.dead = false) ∨ ((opV d).2.1 = 14 ∧ (opV d).2.2.dead = true) := by
  unfold opV
  dsimp only
  split
  · exact Or.inl ⟨rfl, rfl, hd⟩
  · split
    · exact Or.inl ⟨rfl, rfl, hd⟩
    · exact Or.inr ⟨rfl, rfl⟩
theorem okA : isName aB = true := by decide
theorem okB : isName bB = true := by decide
theorem neAB : aB ≠ bB := by decide
/-- What is there while a file is written beside. -/
structure Bes (d : DkIn) (old : List UInt8) : Prop where
  fok : Fok d.files
  a : find aB d.files = some ⟨aB, old, old.length⟩
  room : d.room = 65536
theorem bes_append {d : DkIn} {old fresh : List UInt8} (h : Bes d old) (hd : d.dead = false) (hb : find bB d.files = none) (hu : bytesOf d.files ≤ 200) (hf : fresh.length ≤ 200) :
    Bes (appendV d bB fresh).2 old ∧ find bB (appendV d bB fresh).2.files = some ⟨bB, fresh, 0⟩ ∧ (((appendV d bB fresh).1 = 0 ∧ (appendV d bB fresh).2.dead = false) ∨ ((appendV d bB fresh).1 = 14 ∧ (appendV d bB fresh).2.dead = true)) := by
  have h1 : ¬ (d.room - usedV d < (fresh.length : Int)) := by
    unfold usedV
    rw [hd, if_neg (by decide), h.room]
    omega
  have e : appendV d bB fresh = ((opV { d with files := putF ⟨bB, fresh, 0⟩ d.files }).2.1, (opV { d with files := putF ⟨bB, fresh, 0⟩ d.files }).2.2) := by
    unfold appendV
    rw [hd, if_neg (by decide), if_neg (by decide), if_neg h1, hb]
    rfl
  rw [e]
  refine ⟨⟨?_, ?_, ?_⟩, ?_, ?_⟩
  · dsimp only
    rw [op_files]
    exact h.fok.put ⟨bB, fresh, 0⟩ okB (Nat.zero_le _)
  · dsimp only
    rw [op_files]
    exact (find_put_other h.fok ⟨bB, fresh, 0⟩ okB (Nat.zero_le _) neAB).trans h.a
  · dsimp only
    rw [op_room]
    exact h.room
  · dsimp only
    rw [op_files]
    exact find_put_same h.fok ⟨bB, fresh, 0⟩ okB (Nat.zero_le _)
  · rcases op_cases { d with files := putF ⟨bB, fresh, 0⟩ d.files } hd with h | h
    · exact Or.inl ⟨h.2.1, h.2.2⟩
    · exact Or.inr h
theorem bes_sync {d : DkIn} {old fresh : List UInt8} (h : Bes d old) (hd : d.dead = false) (hb : find bB d.files = some ⟨bB, fresh, 0⟩) :
    Bes (syncV d bB).2 old ∧ (((syncV d bB).1 = 0 ∧ (syncV d bB).2.dead = false ∧ find bB (syncV d bB).2.files = some ⟨bB, fresh, fresh.length⟩) ∨ ((syncV d bB).1 = 14 ∧ (syncV d bB).2.dead = true)) := by
  obtain ⟨k1, k2⟩ := sync_keeps h.fok bB (m := aB) (by decide)
  have e : syncV d bB = ((opV d).2.1, if (opV d).1 then { (opV d).2.2 with files := putF ⟨bB, fresh, fresh.length⟩ (opV d).2.2.files } else (opV d).2.2) := by
    unfold syncV
    rw [hd, if_neg (by decide), hb]
  refine ⟨⟨k1, k2.trans h.a, ?_⟩, ?_⟩
  · rw [e]
    dsimp only
    split
    · exact (op_room d).trans h.room
    · exact (op_room d).trans h.room
  · rw [e]
    rcases op_cases d hd with ⟨o1, o2, o3⟩ | ⟨o1, o2⟩
    · refine Or.inl ⟨o2, ?_, ?_⟩
      · dsimp only
        rw [if_pos o1]
        exact o3
      · dsimp only
        rw [if_pos o1]
        dsimp only
        rw [op_files]
        exact find_put_same h.fok ⟨bB, fresh, fresh.length⟩ okB (Nat.le_refl _)
    · refine Or.inr ⟨o1, ?_⟩
      dsimp only
      split
      · exact o2
      · exact o2
theorem bes_rename {d : DkIn} {old fresh : List UInt8} (h : Bes d old) (hd : d.dead = false) (hb : find bB d.files = some ⟨bB, fresh, fresh.length⟩) :
    Fok (renameV d bB aB).2.files ∧ (((renameV d bB aB).1 = 0 ∧ find aB (renameV d bB aB).2.files = some ⟨aB, fresh, fresh.length⟩) ∨ ((renameV d bB aB).1 = 14 ∧ (find aB (renameV d bB aB).2.files = some ⟨aB, fresh, fresh.length⟩ ∨ find aB (renameV d bB aB).2.files = some ⟨aB, old, old.length⟩))) := by
  have e : renameV d bB aB = ((opV d).2.1, if (opV d).1 then { (opV d).2.2 with files := putF ⟨aB, fresh, fresh.length⟩ (del bB (opV d).2.2.files) } else (opV d).2.2) := by
    unfold renameV
    rw [hd, if_neg (by decide), if_neg (by decide), hb]
  have p1 : Fok (putF ⟨aB, fresh, fresh.length⟩ (del bB d.files)) := (h.fok.del bB).put ⟨aB, fresh, fresh.length⟩ okA (Nat.le_refl _)
  have p2 : find aB (putF ⟨aB, fresh, fresh.length⟩ (del bB d.files)) = some ⟨aB, fresh, fresh.length⟩ := find_put_same (h.fok.del bB) ⟨aB, fresh, fresh.length⟩ okA (Nat.le_refl _)
  rw [e]
  rcases op_cases d hd with ⟨o1, o2, o3⟩ | ⟨o1, o2⟩
  · dsimp only
    rw [if_pos o1]
    dsimp only
    rw [op_files]
    exact ⟨p1, Or.inl ⟨o2, p2⟩⟩
  · dsimp only
    split
    · dsimp only
      rw [op_files]
      exact ⟨p1, Or.inr ⟨o1, Or.inl p2⟩⟩
    · rw [op_files]
      exact ⟨h.fok, Or.inr ⟨o1, Or.inr h.a⟩⟩
/-- Behind the crash there is the elder or the new one, whole. -/
theorem beside_old {d : DkIn} {old : List UInt8} (h : Bes d old) (ho : 1 ≤ old.length) (keep : List Int) : readV (crashV d keep) aB = (old, 0) := whole_crash h.fok h.a ho keep
end Dsk
end Go.Proofs.Yteaikleofboknaa
end
section
namespace Go.Proofs.Yteaikleofboknaa
open Go.RowKit
namespace Dsk
/-- A file, as it is read. -/
def encF (f : FileIn) : DataW Unit := .agg [.lit (.string f.by'), .lit (.int .i64 f.sure)]
def entry (f : FileIn) : Lit × DataW Unit := (.string f.nm, encF f)
/-- All files, as they are read. -/
def datum (l : List FileIn) : DataW Unit := .map (l.map entry)
/-- How a file is read. -/
def fileElem (v : Value) : Option (DataW Unit × List MemPlace) := match v with
  | .agg cs => match cs.toList with
    | [.string s, .int .i64 n] => some (.agg [.lit (.string s.data.toList), .lit (.int .i64 n)], [])
    | _ => none
  | _ => none
theorem insert_entry (f : FileIn) : ∀ l : List FileIn, DataW.insert (entry f) (l.map entry) = (ins f l).map entry
  | [] => rfl
  | x :: l => by
    rw [List.map_cons]
    unfold DataW.insert ins
    show (if bytesBefore f.nm x.nm = true then _ else _) = _
    by_cases h : bytesBefore f.nm x.nm = true
    · rw [if_pos h, if_pos h]
      rfl
    · rw [if_neg h, if_neg h, insert_entry f l]
      rfl
theorem same_entry (x : FileIn) (s : List UInt8) : (entry x).1.sameKey (.string s) = decide (x.nm = s) := by
  show (x.nm == s) = decide (x.nm = s)
  by_cases h : x.nm = s
  · simp [h]
  · simp [h]
theorem filter_entry (s : List UInt8) (l : List FileIn) : (l.map entry).filter (fun p => !p.1.sameKey (.string s)) = (del s l).map entry := by
  unfold del
  rw [List.filter_map]
  congr 1
  apply List.filter_congr
  intro x _
  show (!(entry x).1.sameKey (.string s)) = _
  rw [same_entry]
theorem datum_put (f : FileIn) (l : List FileIn) : (datum l).put (.string f.nm) (encF f) = datum (putF f l) := by
  show DataW.map (DataW.insert (entry f) ((l.map entry).filter fun p => !p.1.sameKey (.string f.nm))) = _
  rw [filter_entry, insert_entry]
  rfl
theorem datum_del (s : List UInt8) (l : List FileIn) : (datum l).del (.string s) = datum (del s l) := by
  show DataW.map ((l.map entry).filter fun p => !p.1.sameKey (.string s)) = _
  rw [filter_entry]
  rfl
theorem datum_has (s : List UInt8) (l : List FileIn) : Maps.has (datum l) (.string s) = (find s l).isSome := by
  show (l.map entry).any (fun p => p.1.sameKey (.string s)) = _
  unfold find
  induction l with
  | nil => rfl
  | cons x l ih =>
    rw [List.map_cons, List.any_cons, ih, List.find?_cons]
    rw [same_entry]
    cases decide (x.nm = s) <;> rfl
theorem datum_at (s : List UInt8) (l : List FileIn) (z : DataW Unit) : (datum l).atKey (.string s) z = match find s l with | some f => encF f | none => z := by
  unfold DataW.atKey datum find
  dsimp only
  rw [List.find?_map]
  have e : ((fun p : Lit × DataW Unit => p.1.sameKey (.string s)) ∘ entry) = fun x : FileIn => decide (x.nm = s) := by
    funext x
    exact same_entry x s
  rw [e]
  cases l.find? fun x => decide (x.nm = s) <;> rfl
/-- What a file that is read looks like. -/
theorem fileElem_inv {v : Value} {f : FileIn} {ps : List MemPlace} (h : fileElem v = some (encF f, ps)) : v = .agg #[.string ⟨f.by'.toArray⟩, .int .i64 f.sure] ∧ ps = [] := by
  unfold fileElem at h
  split at h
  · rename_i cs
    split at h
    · rename_i s n e
      obtain ⟨h1, h2⟩ := Prod.mk.inj (Option.some.inj h)
      unfold encF at h1
      injection h1 with h1
      injection h1 with h3 h4
      injection h3 with h3
      injection h3 with h3
      injection h4 with h4 _
      injection h4 with h4
      injection h4 with _ h4
      refine ⟨?_, h2.symm⟩
      obtain ⟨l⟩ := cs
      dsimp only at e
      subst e
      rw [← h3, ← h4]
    · cases h
  · cases h
theorem fileElem_mk (b : List UInt8) (n : Nat) (s : List UInt8) : fileElem (.agg #[.string ⟨b.toArray⟩, .int .i64 (n : Int)]) = some (encF ⟨s, b, n⟩, []) := rfl
end Dsk
end Go.Proofs.Yteaikleofboknaa
end
section
namespace Go.Proofs.Yteaikleofboknaa
open Go.RowKit
namespace Own
theorem own_block {w : World} {base : Nat} {e : TypeId} {size : Nat} {v : Value} {n : Nat} {xs : List Value} (h : w.ownsRow base e size v n xs) {B : Nat} (hB : B ≤ base) : ∀ k, v.ownBlock = some k → B ≤ k :=
  fun k hk => Nat.le_trans hB (h.lt k hk).1
/-- One element behind a row of one's own, in a region that draws its order. -/
theorem step_one {P : Program} {ops : Array Oper} {o : Oper} {a : Act} {w : World} {K : Act → World → Prop} {Q : Exit → Act → World → Prop} {E : Prop} (hgd : o.guard = none) (s x : Operand) (t : TypeId)
    (ho : o.op = .call { callee := .builtin .append, args := #[s, x], argTypes := #[t, t] })
    (base : Nat) (e : TypeId) (i : TypeInfo) (z : Value) (bytes : Nat) (ht : P.underlying t = some (.slice e)) (hi : P.info? e = some i) (hz : i.zero = some z)
    (hsize : i.size = 1) (hby : i.bytes = bytes) (hzs : z.cells.size = 1)
    (v : Value) (n : Nat) (xs : List Value) (hs : a.eval s = v) (ad : Addr) (c : Nat) (u : Value) (hx : a.eval x = .slice (some ad) 1 c) (hown : w.ownsRow base e 1 v n xs)
    (hu : w.cell? ad = some u) (h1 : u.oneCell' = true) (h63 : n + 1 ≤ maxLen) (hbytes : (n + 1) * bytes ≤ 140737488355328) (hbase : base ≤ w.heap.size)
    (h : ∀ v' w', w'.ownsRow base e 1 v' (n + 1) (xs ++ [u]) → w.grownBy w' v.ownBlock → K (a.put o.dst v') w') :
    if Region.wanted o (yielded ops a.tmps) = true then Oper.wp P o a w K Q else E :=
  step_append_lies w hgd s x t ho base e i z 1 bytes ht hi hz hsize hby hzs (by decide) v n xs hs hown ad 1 c [u] hx rfl
    (fun j u2 hj => by cases j with
      | zero => simp at hj; subst hj; simpa [Addr.add] using hu
      | succ j => simp at hj) (fun u2 hw => by simp at hw; subst hw; exact h1) (by decide) h63 hbytes hbase _ rfl
    (fun g cap w' hown' hgrow _ _ => h _ w' hown' hgrow)
/-- One element behind a row of one's own. -/
theorem list_one {P : Program} {ops : Array Oper} {rest : List Oper} {o : Oper} {a : Act} {w : World} {Q : Exit → Act → World → Prop} (hgd : o.guard = none) (s x : Operand) (t : TypeId)
    (ho : o.op = .call { callee := .builtin .append, args := #[s, x], argTypes := #[t, t] })
    (base : Nat) (e : TypeId) (i : TypeInfo) (z : Value) (bytes : Nat) (ht : P.underlying t = some (.slice e)) (hi : P.info? e = some i) (hz : i.zero = some z)
    (hsize : i.size = 1) (hby : i.bytes = bytes) (hzs : z.cells.size = 1)
    (v : Value) (n : Nat) (xs : List Value) (hs : a.eval s = v) (ad : Addr) (c : Nat) (u : Value) (hx : a.eval x = .slice (some ad) 1 c) (hown : w.ownsRow base e 1 v n xs)
    (hu : w.cell? ad = some u) (h1 : u.oneCell' = true) (h63 : n + 1 ≤ maxLen) (hbytes : (n + 1) * bytes ≤ 140737488355328) (hbase : base ≤ w.heap.size)
    (h : ∀ v' w', w'.ownsRow base e 1 v' (n + 1) (xs ++ [u]) → w.grownBy w' v.ownBlock → wpList P ops Q rest (a.put o.dst v') w') : wpList P ops Q (o :: rest) a w :=
  wpList_append_own w hgd s x t ho base e i z 1 bytes ht hi hz hsize hby hzs (by decide) v n xs hs hown ad 1 c [u] hx rfl
    (fun j u2 hj => by cases j with
      | zero => simp at hj; subst hj; simpa [Addr.add] using hu
      | succ j => simp at hj) (fun u2 hw => by simp at hw; subst hw; exact h1) h63 hbytes hbase
    (fun v' w' hown' hgrow _ => h v' w' hown' hgrow)
/-- Bytes as cells. -/
def byteVals (l : List UInt8) : List Value := l.map fun b => Value.int .u8 b.toNat
theorem byteVals_append (a b : List UInt8) : byteVals (a ++ b) = byteVals a ++ byteVals b := by simp [byteVals]
theorem byteVals_length (a : List UInt8) : (byteVals a).length = a.length := by simp [byteVals]
/-- 'string(b)' of bytes of one's own. -/
theorem run_back {P : Program} {w : World} {base : Nat} {e src dst : TypeId} {v : Value} {l : List UInt8} (hs : P.underlying src = some (.slice e)) (he : P.underlying e = some (.int .u8)) (hd : P.underlying dst = some .string)
    (h : w.ownsRow base e 1 v l.length (byteVals l)) : (convert src dst v).run P w = .ok (.string ⟨l.toArray⟩) w := by
  rcases h.2 with ⟨rfl, h0⟩ | ⟨g, cap, cur, rfl, _, _, _⟩
  · have : l = [] := List.length_eq_zero_iff.1 h0
    subst this
    exact run_convert_bytes_nil w src e hs he 0 0 dst hd
  · apply run_convert_bytes_back w src dst e _ cap l hs he hd
    intro j hj
    exact h.cells rfl j _ (by simp [byteVals, hj])
theorem ownsRow_drewN {w : World} {base : Nat} {e : TypeId} {size : Nat} {v : Value} {n : Nat} {xs : List Value} (h : w.ownsRow base e size v n xs) (q : Nat) : (w.drewN q).ownsRow base e size v n xs := h
theorem ownsRow_drew {w : World} {base : Nat} {e : TypeId} {size : Nat} {v : Value} {n : Nat} {xs : List Value} (h : w.ownsRow base e size v n xs) : w.drew.ownsRow base e size v n xs := h
theorem cell_new (w : World) (x : Value) (t : TypeId) : (w.alloc (.cells #[x] t)).cell? ⟨w.heap.size, 0, none⟩ = some x :=
  (cell_of_row _ _ 0 #[x] t (0, 0) (by show (w.heap.push _)[w.heap.size]? = _; simp)).trans rfl
/-- 'string(b)' of a block of bytes. -/
theorem run_back_block {P : Program} {w : World} {e src dst T : TypeId} {fr : Nat × Nat} (g cap : Nat) (l : List UInt8) (rest : List Value) (hs : P.underlying src = some (.slice e)) (he : P.underlying e = some (.int .u8)) (hd : P.underlying dst = some .string)
    (h : w.heap[g]? = some (.cells (byteVals l ++ rest).toArray T fr)) : (convert src dst (.slice (some ⟨g, 0, none⟩) l.length cap)).run P w = .ok (.string ⟨l.toArray⟩) w := by
  apply run_convert_bytes_back w src dst e _ cap l hs he hd
  intro j hj
  have hadd : (⟨g, 0, none⟩ : Addr).add j = ⟨g, j, none⟩ := by unfold Addr.add; split <;> simp_all
  rw [hadd, cell_of_row _ _ _ _ _ _ h]
  simp [byteVals, List.getElem?_append, hj]
theorem heap_new (w : World) (o : Obj) : (w.alloc o).heap[w.heap.size]? = some o := by
  show (w.heap.push _)[w.heap.size]? = _; simp
theorem run_back_new {P : Program} {w : World} {e src dst T : TypeId} (cap : Nat) (C : Array Value) (l : List UInt8) (n : Nat) (hs : P.underlying src = some (.slice e)) (he : P.underlying e = some (.int .u8)) (hd : P.underlying dst = some .string)
    (hC : C = (byteVals l).toArray) (hn : l.length = n) : (convert src dst (.slice (some ⟨w.heap.size, 0, none⟩) n cap)).run P (w.alloc (.cells C T)) = .ok (.string ⟨l.toArray⟩) (w.alloc (.cells C T)) := by
  subst hn
  exact run_back_block w.heap.size cap l [] hs he hd (by rw [heap_new, hC, List.append_nil])
/-- A cut of a string, its bounds written as a walk writes them. -/
theorem slice_str {P : Program} {t : TypeId} (ht : P.underlying t = some .string) (s : ByteArray) (lo hi : Nat) (i j : Int) (h1 : i = (lo : Int)) (h2 : j = (hi : Int)) (h3 : lo ≤ hi) (h4 : hi ≤ s.size) (w : World) :
    (Instr.slice t (.string s) (some (.int .i64 i)) (some (.int .i64 j)) none).run P w = .ok (.string (s.extract lo hi)) w := by
  subst h1
  subst h2
  rw [run_slice_string_if w t s .i64 .i64 _ _ ht, if_pos ⟨by omega, by omega⟩, if_pos ⟨by omega, by omega⟩]
  simp
/-- A row of one's own stays where nothing that was there has changed. -/
theorem own_below {w w' : World} {base : Nat} {e : TypeId} {size : Nat} {v : Value} {n : Nat} {xs : List Value} (h : w.ownsRow base e size v n xs) (hb : Below w.heap.size w w') : w'.ownsRow base e size v n xs := by
  refine ⟨h.1, ?_⟩
  rcases h.2 with h0 | ⟨g, cap, cur, rfl, h1, hg, h2⟩
  · exact .inl h0
  · exact .inr ⟨g, cap, cur, rfl, h1, (hb.block g (Array.getElem?_eq_some_iff.1 hg).1).trans hg, h2⟩
end Own
end Go.Proofs.Yteaikleofboknaa
end
section
namespace Go.Proofs.Yteaikleofboknaa
open Go.RowKit
namespace Ord
section
variable {P : Program} {ops : Array Oper} {Q : Exit → Act → World → Prop} {md : Region.Mode} {S : World → Prop} {D : Nat → Bool}
/-- Whatever order is picked; S holds behind every operation that does not wait for a load. -/
def wpAnyU (P : Program) (md : Region.Mode) (ops : Array Oper) (Q : Exit → Act → World → Prop) (S : World → Prop) (D : Nat → Bool) : Nat → Array Bool → Act → World → Prop
  | 0, listed, a, w => Region.ready md ops listed = [] ∧ Q .normal a w
  | fuel + 1, listed, a, w =>
    (Region.ready md ops listed = [] → Q .normal a w) ∧
    ∀ i ∈ Region.ready md ops listed, wpOp P ops Q i (fun a' w' => (D i = false → S w') ∧ wpAnyU P md ops Q S D fuel (listed.setIfInBounds i true) a' w') a w
theorem wpAny_of_U : ∀ (fuel : Nat) (listed : Array Bool) (a : Act) (w : World), wpAnyU P md ops Q S D fuel listed a w → wpAny P md ops Q fuel listed a w
  | 0, _, _, _, h => h
  | fuel + 1, _, _, _, h => ⟨h.1, fun i hi => wpOp_mono (fun a' w' h' => wpAny_of_U fuel _ a' w' h'.2) (h.2 i hi)⟩
theorem off_of {listed : Array Bool} {k : Nat} (h : listed.getD k true = false) : listed.getD k false = false := by
  rcases Nat.lt_or_ge k listed.size with h' | h'
  · simp [h'] at h ⊢; exact h
  · simp [Array.getElem?_eq_none h'] at h
theorem wpAnyU_first {E : Nat → Bool} (hDE : ∀ j, D j = true → E j = true) {i : Nat} {oi : Oper} {v : Value} (hi : ops[i]? = some oi) (hsel : ∀ (j : Nat) (o : Oper) cs b, ops[j]? = some o → o.op ≠ .select cs b)
    (hQ : ∀ c a w, Q (.panic c) (a.put oi.dst v) w → Q (.panic c) a w) (hdep : ∀ j oj, ops[j]? = some oj → E j = true → ∃ e ∈ oj.after, Region.binds md e = true ∧ (e.on = i ∨ E e.on = true)) :
    ∀ (fuel : Nat) (listed : Array Bool) (a : Act) (w : World),
      (∀ j oj, ops[j]? = some oj → j ≠ i → listed.getD j true = false → (∀ e ∈ oj.after, Region.binds md e = true → e.on ≠ i) → oi.apart ops oj = true) →
      i ∈ Region.ready md ops listed → (∀ j, E j = true → listed.getD j true = false) → YieldsIf P ops S oi v a → S w →
      wpAnyU P md ops Q S D fuel (listed.setIfInBounds i true) (a.put oi.dst v) w → wpAnyU P md ops Q S D (fuel + 1) listed a w := by
  intro fuel
  induction fuel with
  | zero =>
    intro listed a w _ hr _ hy hS H
    refine ⟨fun h => (by rw [h] at hr; cases hr), fun j hj => ?_⟩
    by_cases hji : j = i
    · subst hji; exact hy.wpOp hi hS ⟨fun _ => hS, H⟩
    · have := ready_mono hj hji
      rw [H.1] at this
      cases this
  | succ fuel ih =>
    intro listed a w hfree hr hU hy hS H
    refine ⟨fun h => (by rw [h] at hr; cases hr), fun j hj => ?_⟩
    by_cases hji : j = i
    · subst hji; exact hy.wpOp hi hS ⟨fun _ => hS, H⟩
    · have h1 := H.2 j (ready_mono hj hji)
      obtain ⟨hjun, oj, hoj, hall⟩ := mem_ready.1 hj
      have hioff := off_of (mem_ready.1 hr).1
      have hnot : ∀ e ∈ oj.after, Region.binds md e = true → e.on ≠ i := fun e he hb heq => by
        have h1 := hall e he hb
        rw [heq, hioff] at h1
        cases h1
      have hEj : E j = false := by
        cases hd : E j with
        | false => rfl
        | true =>
          obtain ⟨e, he, hb, hor⟩ := hdep j oj hoj hd
          have h2 := hall e he hb
          rcases hor with h3 | h3
          · rw [h3, hioff] at h2; cases h2
          · rw [off_of (hU _ h3)] at h2; cases h2
      have hDj : D j = false := by
        cases hd : D j with
        | false => rfl
        | true => rw [hDE j hd] at hEj; cases hEj
      have h2 := wpOp_putIf hoj (hfree j oj hoj hji hjun hnot) (fun cs b => hsel i oi cs b hi) (fun cs b => hsel j oj cs b hoj) hQ hy h1
      have hfree' : ∀ k ok, ops[k]? = some ok → k ≠ i → (listed.setIfInBounds j true).getD k true = false →
          (∀ e ∈ ok.after, Region.binds md e = true → e.on ≠ i) → oi.apart ops ok = true := fun k ok hk hki hun hno => by
        refine hfree k ok hk hki ?_ hno
        by_cases hjk : j = k
        · subst hjk; exact hjun
        · rw [getD_set_ne true hjk] at hun; exact hun
      have hU' : ∀ k, E k = true → (listed.setIfInBounds j true).getD k true = false := fun k hk => by
        have hjk : j ≠ k := fun e => by rw [e, hk] at hEj; cases hEj
        rw [getD_set_ne true hjk]
        exact hU k hk
      refine wpOp_mono (fun a' w' h3 => ⟨fun _ => h3.2.1 hDj, ih (listed.setIfInBounds j true) a' w' hfree' (ready_mono hr (Ne.symm hji)) hU' h3.1 (h3.2.1 hDj) ?_⟩) h2
      rw [Array.setIfInBounds_comm _ _ hji]
      exact h3.2.2
/-- Whoever waits: each of them waits for i, or for another of them. -/
def waits (md : Region.Mode) (ops : Array Oper) (D : Nat → Bool) (i : Nat) : Bool :=
  (List.range ops.size).all fun j => !D j || match ops[j]? with
    | some oj => oj.after.any fun e => Region.binds md e && (e.on == i || D e.on)
    | none => true
theorem waits_spec {i : Nat} (h : waits md ops D i = true) (j : Nat) (oj : Oper) (hj : ops[j]? = some oj) (hd : D j = true) : ∃ e ∈ oj.after, Region.binds md e = true ∧ (e.on = i ∨ D e.on = true) := by
  simp only [waits, List.all_eq_true, List.mem_range] at h
  have h1 := h j (Array.getElem?_eq_some_iff.1 hj).1
  simp only [hj, hd, Bool.not_true, Bool.false_or] at h1
  obtain ⟨e, he, hb⟩ := Array.any_eq_true'.1 h1
  simp only [Bool.and_eq_true, Bool.or_eq_true, beq_iff_eq] at hb
  exact ⟨e, he, hb.1, hb.2⟩
/-- None of those who wait has come up. -/
def ahead (D : Nat → Bool) (n : Nat) (listed : Array Bool) : Bool := (List.range n).all fun j => !D j || !listed.getD j true
theorem ahead_spec {n : Nat} {listed : Array Bool} (hD : ∀ j, D j = true → j < n) (h : ahead D n listed = true) (j : Nat) (hd : D j = true) : listed.getD j true = false := by
  simp only [ahead, List.all_eq_true, List.mem_range] at h
  have h1 := h j (hD j hd)
  rw [hd] at h1
  simpa using h1
/-- Those of a list. -/
def among (l : List Nat) (j : Nat) : Bool := l.contains j
theorem among_lt {l : List Nat} {n : Nat} (h : l.all (fun j => decide (j < n)) = true) (j : Nat) (hj : among l j = true) : j < n := by
  simp only [List.all_eq_true, decide_eq_true_eq] at h
  exact h j (by simpa [among] using hj)
/-- Whoever waits for i, directly or by another. -/
def desc (md : Region.Mode) (ops : Array Oper) (i : Nat) : List Nat :=
  (List.range ops.size).foldl (fun acc j => if (match ops[j]? with | some oj => oj.after.any fun e => Region.binds md e && (e.on == i || acc.contains e.on) | none => false) then acc ++ [j] else acc) []
theorem wpAnyU_take {l : List Nat} {i : Nat} {oi : Oper} {v : Value} {fuel : Nat} {listed : Array Bool} {a : Act} {w : World} (hi : ops[i]? = some oi)
    (hs : Region.noSelect ops = true) (hf : Region.free md ops listed i = true) (hr : (Region.ready md ops listed).contains i = true)
    (hd : l.all (fun j => (desc md ops i).contains j) = true) (hw : waits md ops (among (desc md ops i)) i = true) (hl : (desc md ops i).all (fun j => decide (j < listed.size)) = true) (ha : ahead (among (desc md ops i)) listed.size listed = true)
    (hQ : ∀ c a w, Q (.panic c) (a.put oi.dst v) w → Q (.panic c) a w) (hy : YieldsIf P ops S oi v a) (hS : S w)
    (h : wpAnyU P md ops Q S (among l) fuel (listed.setIfInBounds i true) (a.put oi.dst v) w) : wpAnyU P md ops Q S (among l) (fuel + 1) listed a w :=
  wpAnyU_first (E := among (desc md ops i)) (fun j hj => by
    simp only [List.all_eq_true] at hd
    exact hd j (by simpa [among] using hj)) hi (Region.noSelect_spec hs) hQ (waits_spec hw) fuel listed a w (Region.free_spec hi hf) (by simpa using hr) (ahead_spec (among_lt hl) ha) hy hS h
/-- What yields in whatever world, however late it stands: an operation that is not waited for by those of the list may be taken when nobody else can come up. -/
theorem wpAnyU_one {i : Nat} {o : Oper} {fuel : Nat} {listed : Array Bool} {a : Act} {w : World} (hr : Region.ready md ops listed = [i]) (ho : ops[i]? = some o)
    (h : ∀ K' : Act → World → Prop, Shut (∀ a w, (D i = false → S w) → wpAnyU P md ops Q S D fuel (listed.setIfInBounds i true) a w → K' a w) → if Region.wanted o (yielded ops a.tmps) = true then Oper.wp P o a w K' Q else K' (a.put o.dst undef) w) :
    wpAnyU P md ops Q S D (fuel + 1) listed a w := by
  refine ⟨fun h0 => absurd (hr ▸ h0) (by simp), fun j hj => ?_⟩
  rw [hr] at hj
  rw [List.mem_singleton.1 hj]
  exact wpOp_step ho fun K' hK => h K' fun a w hS hW => hK a w ⟨hS, hW⟩
theorem wpAnyU_done {listed : Array Bool} {a : Act} {w : World} (hr : Region.ready md ops listed = []) (h : Q .normal a w) : ∀ fuel, wpAnyU P md ops Q S D fuel listed a w
  | 0 => ⟨hr, h⟩
  | _ + 1 => ⟨fun _ => h, by rw [hr]; simp⟩
theorem wp_region_U {id : Nat} {a : Act} {w : World} (S : World → Prop) (l : List Nat) (hm : P.follows .mixedOrders = true)
    (h : wpAnyU P .any ops Q S (among l) ops.size (Array.replicate ops.size false) a w.drew) : (Code.region id ops true).wp P Q a w :=
  wp_region_any hm (wpAny_of_U _ _ _ _ h)
end
end Ord
end Go.Proofs.Yteaikleofboknaa
end
section
namespace Go.Proofs.Yteaikleofboknaa
open Go.RowKit
namespace Ord
section
variable {P : Program} {md : Region.Mode} {ops : Array Oper} {Q : Exit → Act → World → Prop} {S : World → Prop} {D : Nat → Bool}
theorem wpAnyU_two {i j : Nat} {o p : Oper} {fuel : Nat} {listed : Array Bool} {a : Act} {w : World} (hr : Region.ready md ops listed = [i, j]) (ho : ops[i]? = some o) (hp : ops[j]? = some p)
    (h : ∀ K' : Act → World → Prop, Shut (∀ a w, (D i = false → S w) → wpAnyU P md ops Q S D fuel (listed.setIfInBounds i true) a w → K' a w) → if Region.wanted o (yielded ops a.tmps) = true then Oper.wp P o a w K' Q else K' (a.put o.dst undef) w)
    (h2 : ∀ K' : Act → World → Prop, Shut (∀ a w, (D j = false → S w) → wpAnyU P md ops Q S D fuel (listed.setIfInBounds j true) a w → K' a w) → if Region.wanted p (yielded ops a.tmps) = true then Oper.wp P p a w K' Q else K' (a.put p.dst undef) w) :
    wpAnyU P md ops Q S D (fuel + 1) listed a w := by
  refine ⟨fun h0 => absurd (hr ▸ h0) (by simp), fun k hk => ?_⟩
  rw [hr] at hk
  rcases List.mem_cons.1 hk with e | hk
  · rw [e]
    exact wpOp_step ho fun K' hK => h K' fun a w hS hW => hK a w ⟨hS, hW⟩
  · rw [List.mem_singleton.1 hk]
    exact wpOp_step hp fun K' hK => h2 K' fun a w hS hW => hK a w ⟨hS, hW⟩
end
end Ord
end Go.Proofs.Yteaikleofboknaa
end
