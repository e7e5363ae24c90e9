/- A disk with files, in plain words: what is found behind what was put. -/
import Derived.Test.YtnbmjbelmcibgaaDskP
import Derived.WideAt
import Derived.WideShapes
set_option linter.unusedSimpArgs false
set_option linter.unusedVariables false
namespace Go.Proofs.Ytnbmjbelmcibgaa
open Go.RowKit
namespace Dsk
theorem mem_ins (f x : FileIn) : ∀ l : List FileIn, x ∈ ins f l ↔ x = f ∨ x ∈ l
  | [] => by simp [ins]
  | y :: l => by
    unfold ins
    split
    · simp
    · simp [mem_ins f x l]
      exact ⟨fun h => by rcases h with h | h | h <;> simp [h], fun h => by rcases h with h | h | h <;> simp [h]⟩
theorem mem_del (s : List UInt8) (x : FileIn) (l : List FileIn) : x ∈ del s l ↔ x ∈ l ∧ x.nm ≠ s := by simp [del]
theorem mem_put (f x : FileIn) (l : List FileIn) : x ∈ putF f l ↔ x = f ∨ (x ∈ l ∧ x.nm ≠ f.nm) := by
  unfold putF
  rw [mem_ins, mem_del]
theorem rise_ins (f : FileIn) : ∀ l : List FileIn, (l.Pairwise fun a b => bytesBefore a.nm b.nm = true) → (∀ x ∈ l, x.nm ≠ f.nm) → (ins f l).Pairwise fun a b => bytesBefore a.nm b.nm = true
  | [], _, _ => by simp [ins]
  | y :: l, h, hn => by
    obtain ⟨h1, h2⟩ := List.pairwise_cons.1 h
    unfold ins
    split
    · rename_i hb
      refine List.pairwise_cons.2 ⟨fun z hz => ?_, h⟩
      rcases List.mem_cons.1 hz with rfl | hz
      · exact hb
      · exact WideShapes.bytes_trans _ _ _ hb (h1 z hz)
    · rename_i hb
      refine List.pairwise_cons.2 ⟨fun z hz => ?_, rise_ins f l h2 fun x hx => hn x (List.mem_cons_of_mem _ hx)⟩
      rcases (mem_ins f z l).1 hz with rfl | hz
      · rcases WideAt.bytes_total y.nm z.nm (hn y (List.mem_cons_self ..)) with h | h
        · exact h
        · exact absurd h hb
      · exact h1 z hz
theorem rise_del (s : List UInt8) {l : List FileIn} (h : l.Pairwise fun a b => bytesBefore a.nm b.nm = true) : (del s l).Pairwise fun a b => bytesBefore a.nm b.nm = true := h.sublist List.filter_sublist
theorem Fok.del {l : List FileIn} (h : Fok l) (s : List UInt8) : Fok (del s l) :=
  ⟨rise_del s h.rise, fun f hf => h.name f ((mem_del s f l).1 hf).1, fun f hf => h.sure f ((mem_del s f l).1 hf).1⟩
theorem Fok.put {l : List FileIn} (h : Fok l) (f : FileIn) (hn : isName f.nm = true) (hs : f.sure ≤ f.by'.length) : Fok (putF f l) := by
  refine ⟨rise_ins f _ (rise_del f.nm h.rise) fun x hx => ((mem_del f.nm x l).1 hx).2, fun x hx => ?_, fun x hx => ?_⟩
  · rcases (mem_put f x l).1 hx with rfl | hx
    · exact hn
    · exact h.name x hx.1
  · rcases (mem_put f x l).1 hx with rfl | hx
    · exact hs
    · exact h.sure x hx.1
/-- Of a name there is one file. -/
theorem rise_one {l : List FileIn} (h : l.Pairwise fun a b => bytesBefore a.nm b.nm = true) {x y : FileIn} (hx : x ∈ l) (hy : y ∈ l) (e : x.nm = y.nm) : x = y := by
  induction l with
  | nil => cases hx
  | cons z l ih =>
    obtain ⟨h1, h2⟩ := List.pairwise_cons.1 h
    rcases List.mem_cons.1 hx with hx | hx <;> rcases List.mem_cons.1 hy with hy | hy
    · rw [hx, hy]
    · have := h1 y hy
      rw [← hx, e, WideAt.bytes_irrefl] at this
      cases this
    · have := h1 x hx
      rw [← hy, ← e, WideAt.bytes_irrefl] at this
      cases this
    · exact ih h2 hx hy
theorem find_some {l : List FileIn} (h : l.Pairwise fun a b => bytesBefore a.nm b.nm = true) (s : List UInt8) (f : FileIn) : find s l = some f ↔ f ∈ l ∧ f.nm = s := by
  unfold find
  constructor
  · intro e
    exact ⟨List.mem_of_find?_eq_some e, by simpa using List.find?_some e⟩
  · rintro ⟨hf, e⟩
    cases hq : l.find? fun x => decide (x.nm = s) with
    | none =>
      have := List.find?_eq_none.1 hq f hf
      simp [e] at this
    | some g =>
      have hg := List.mem_of_find?_eq_some hq
      have eg : g.nm = s := by simpa using List.find?_some hq
      rw [rise_one h hf hg (e.trans eg.symm)]
theorem find_none {l : List FileIn} (s : List UInt8) : find s l = none ↔ ∀ f ∈ l, f.nm ≠ s := by
  unfold find
  rw [List.find?_eq_none]
  simp
theorem find_put_same {l : List FileIn} (h : Fok l) (f : FileIn) (hn : isName f.nm = true) (hs : f.sure ≤ f.by'.length) : find f.nm (putF f l) = some f :=
  (find_some (h.put f hn hs).rise f.nm f).2 ⟨(mem_put f f l).2 (Or.inl rfl), rfl⟩
theorem find_put_other {l : List FileIn} (h : Fok l) (f : FileIn) (hn : isName f.nm = true) (hs : f.sure ≤ f.by'.length) {s : List UInt8} (hne : s ≠ f.nm) : find s (putF f l) = find s l := by
  cases hq : find s l with
  | none =>
    rw [find_none] at hq ⊢
    intro x hx
    rcases (mem_put f x l).1 hx with rfl | hx
    · exact fun e => hne e.symm
    · exact hq x hx.1
  | some g =>
    obtain ⟨h1, h2⟩ := (find_some h.rise s g).1 hq
    exact (find_some (h.put f hn hs).rise s g).2 ⟨(mem_put f g l).2 (Or.inr ⟨h1, by rw [h2]; exact hne⟩), h2⟩
theorem find_del_same (s : List UInt8) (l : List FileIn) : find s (del s l) = none := by
  rw [find_none]
  exact fun f hf => ((mem_del s f l).1 hf).2
theorem find_del_other {l : List FileIn} (h : Fok l) {s t : List UInt8} (hne : t ≠ s) : find t (del s l) = find t l := by
  cases hq : find t l with
  | none =>
    rw [find_none] at hq ⊢
    exact fun x hx => hq x ((mem_del s x l).1 hx).1
  | some g =>
    obtain ⟨h1, h2⟩ := (find_some h.rise t g).1 hq
    exact (find_some (h.del s).rise t g).2 ⟨(mem_del s g l).2 ⟨h1, by rw [h2]; exact hne⟩, h2⟩
/-- What a crash leaves of a file. -/
theorem crash_mem (keep : List Int) : ∀ (l : List FileIn) (i : Nat) (g : FileIn), g ∈ crashF keep i l → ∃ f ∈ l, ∃ j, g = ⟨f.nm, f.by'.take (leftOf keep j f), leftOf keep j f⟩ ∧ leftOf keep j f ≠ 0
  | [], _, g, h => by cases h
  | f :: l, i, g, h => by
    unfold crashF at h
    dsimp only at h
    split at h
    · obtain ⟨x, hx, j, h1, h2⟩ := crash_mem keep l (i + 1) g h
      exact ⟨x, List.mem_cons_of_mem _ hx, j, h1, h2⟩
    · rename_i hne
      rcases List.mem_cons.1 h with rfl | h
      · exact ⟨f, List.mem_cons_self .., i, rfl, hne⟩
      · obtain ⟨x, hx, j, h1, h2⟩ := crash_mem keep l (i + 1) g h
        exact ⟨x, List.mem_cons_of_mem _ hx, j, h1, h2⟩
theorem crash_all (keep : List Int) : ∀ (l : List FileIn) (i : Nat) (f : FileIn), f ∈ l → ∃ j, leftOf keep j f = 0 ∨ (⟨f.nm, f.by'.take (leftOf keep j f), leftOf keep j f⟩ : FileIn) ∈ crashF keep i l
  | [], _, f, h => by cases h
  | y :: l, i, f, h => by
    rcases List.mem_cons.1 h with rfl | h
    · refine ⟨i, ?_⟩
      unfold crashF
      dsimp only
      split
      · rename_i h0
        exact Or.inl h0
      · exact Or.inr (List.mem_cons_self ..)
    · obtain ⟨j, hj⟩ := crash_all keep l (i + 1) f h
      refine ⟨j, hj.imp id fun hm => ?_⟩
      unfold crashF
      dsimp only
      split
      · exact hm
      · exact List.mem_cons_of_mem _ hm
theorem left_le (keep : List Int) (i : Nat) (f : FileIn) (h : f.sure ≤ f.by'.length) : f.sure ≤ leftOf keep i f ∧ leftOf keep i f ≤ f.by'.length := by
  unfold leftOf
  split
  · unfold keepOf
    rename_i k hk
    have hm := Nat.mod_lt ((k % 4611686018427387904).toNat) (show 0 < f.by'.length - f.sure + 1 by omega)
    obtain ⟨y, hy⟩ : ∃ y, (k % 4611686018427387904).toNat % (f.by'.length - f.sure + 1) = y := ⟨_, rfl⟩
    rw [hy] at hm ⊢
    omega
  · omega
theorem crash_rise (keep : List Int) : ∀ (l : List FileIn) (i : Nat), (l.Pairwise fun a b => bytesBefore a.nm b.nm = true) → (crashF keep i l).Pairwise fun a b => bytesBefore a.nm b.nm = true
  | [], _, _ => by simp [crashF]
  | f :: l, i, h => by
    obtain ⟨h1, h2⟩ := List.pairwise_cons.1 h
    unfold crashF
    dsimp only
    split
    · exact crash_rise keep l (i + 1) h2
    · refine List.pairwise_cons.2 ⟨fun g hg => ?_, crash_rise keep l (i + 1) h2⟩
      obtain ⟨x, hx, j, e, _⟩ := crash_mem keep l (i + 1) g hg
      rw [e]
      exact h1 x hx
theorem Fok.crash {l : List FileIn} (h : Fok l) (keep : List Int) : Fok (crashF keep 0 l) := by
  refine ⟨crash_rise keep l 0 h.rise, fun g hg => ?_, fun g hg => ?_⟩
  · obtain ⟨x, hx, j, e, _⟩ := crash_mem keep l 0 g hg
    rw [e]
    exact h.name x hx
  · obtain ⟨x, hx, j, e, _⟩ := crash_mem keep l 0 g hg
    rw [e]
    have := left_le keep j x (h.sure x hx)
    show leftOf keep j x ≤ (x.by'.take (leftOf keep j x)).length
    rw [List.length_take]
    omega
/-- Behind a crash a file has what was sure, and of the others the first bytes, some. -/
theorem crash_find {l : List FileIn} (h : Fok l) (keep : List Int) (f : FileIn) (hf : find f.nm l = some f) : ∃ n, f.sure ≤ n ∧ n ≤ f.by'.length ∧ find f.nm (crashF keep 0 l) = if n = 0 then none else some ⟨f.nm, f.by'.take n, n⟩ := by
  obtain ⟨hm, _⟩ := (find_some h.rise _ _).1 hf
  have hle := fun j => left_le keep j f (h.sure f hm)
  cases hq : find f.nm (crashF keep 0 l) with
  | none =>
    obtain ⟨j, hj | hj⟩ := crash_all keep l 0 f hm
    · exact ⟨0, by have := hle j; omega, by omega, by rw [if_pos rfl]⟩
    · exact absurd rfl ((find_none f.nm).1 hq ⟨f.nm, f.by'.take (leftOf keep j f), leftOf keep j f⟩ hj)
  | some g =>
    obtain ⟨hg, e⟩ := (find_some (h.crash keep).rise _ _).1 hq
    obtain ⟨x, hx, j, e2, hne⟩ := crash_mem keep l 0 g hg
    have ex : x = f := rise_one h.rise hx hm (by rw [← e, e2])
    subst ex
    exact ⟨leftOf keep j x, (hle j).1, (hle j).2, by rw [if_neg hne, e2]⟩
theorem crash_gone {l : List FileIn} (h : Fok l) (keep : List Int) {s : List UInt8} (hf : find s l = none) : find s (crashF keep 0 l) = none := by
  rw [find_none] at hf ⊢
  intro g hg
  obtain ⟨x, hx, j, e, _⟩ := crash_mem keep l 0 g hg
  rw [e]
  exact hf x hx
end Dsk
end Go.Proofs.Ytnbmjbelmcibgaa
