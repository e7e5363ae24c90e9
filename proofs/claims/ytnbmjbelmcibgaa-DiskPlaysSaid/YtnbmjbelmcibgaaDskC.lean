/- A crash, file by file, in plain words. -/
import Derived.Test.YtnbmjbelmcibgaaDskS
set_option linter.unusedSimpArgs false
set_option linter.unusedVariables false
namespace Go.Proofs.Ytnbmjbelmcibgaa
open Go.RowKit Go.Great Go.Maps
namespace Dsk
theorem crash_cons (keep : List Int) (f : FileIn) (l : List FileIn) (i : Nat) : crashF keep i (f :: l) = if leftOf keep i f = 0 then crashF keep (i + 1) l else ⟨f.nm, f.by'.take (leftOf keep i f), leftOf keep i f⟩ :: crashF keep (i + 1) l := rfl
theorem crash_append (keep : List Int) : ∀ (a b : List FileIn) (i : Nat), crashF keep i (a ++ b) = crashF keep i a ++ crashF keep (i + a.length) b
  | [], b, i => rfl
  | f :: a, b, i => by
    have ih := crash_append keep a b (i + 1)
    rw [show i + 1 + a.length = i + (f :: a).length from by rw [List.length_cons]; omega] at ih
    rw [List.cons_append, crash_cons, crash_cons, ih]
    split
    · rfl
    · rw [List.cons_append]
/-- The files when so many were looked at. -/
def midC (keep : List Int) (l : List FileIn) (i : Nat) : List FileIn := crashF keep 0 (l.take i) ++ l.drop i
theorem mid_zero (keep : List Int) (l : List FileIn) : midC keep l 0 = l := by unfold midC; simp [crashF]
theorem mid_all (keep : List Int) (l : List FileIn) : midC keep l l.length = crashF keep 0 l := by unfold midC; simp
theorem mid_at (keep : List Int) (l : List FileIn) (i : Nat) (h : i < l.length) : midC keep l i = crashF keep 0 (l.take i) ++ l[i] :: l.drop (i + 1) := by
  unfold midC
  rw [List.drop_eq_getElem_cons h]
theorem mid_next (keep : List Int) (l : List FileIn) (i : Nat) (h : i < l.length) : midC keep l (i + 1) = crashF keep 0 (l.take i) ++ ((if leftOf keep i l[i] = 0 then [] else [⟨l[i].nm, l[i].by'.take (leftOf keep i l[i]), leftOf keep i l[i]⟩]) ++ l.drop (i + 1)) := by
  unfold midC
  rw [List.take_succ_eq_append_getElem h, crash_append, List.append_assoc]
  congr 2
  rw [List.length_take, Nat.min_eq_left (by omega), Nat.zero_add, crash_cons]
  split <;> rfl
theorem mid_rise (keep : List Int) {l : List FileIn} (h : Fok l) (i : Nat) : (midC keep l i).Pairwise fun a b => bytesBefore a.nm b.nm = true := by
  unfold midC
  have hr := h.rise
  rw [← List.take_append_drop i l, List.pairwise_append] at hr
  obtain ⟨h1, h2, h3⟩ := hr
  rw [List.pairwise_append]
  refine ⟨crash_rise keep _ 0 h1, h2, fun a ha b hb => ?_⟩
  obtain ⟨f, hf, j, rfl, -⟩ := crash_mem keep _ _ _ ha
  exact h3 f hf b hb
theorem mid_fok (keep : List Int) {l : List FileIn} (h : Fok l) (i : Nat) : Fok (midC keep l i) := by
  have e : ∀ f ∈ midC keep l i, (∃ g ∈ l, ∃ j, f = ⟨g.nm, g.by'.take (leftOf keep j g), leftOf keep j g⟩) ∨ f ∈ l := by
    intro f hf
    unfold midC at hf
    rcases List.mem_append.1 hf with hf | hf
    · obtain ⟨g, hg, j, e, -⟩ := crash_mem keep _ _ _ hf
      exact Or.inl ⟨g, List.mem_of_mem_take hg, j, e⟩
    · exact Or.inr (List.mem_of_mem_drop hf)
  refine ⟨mid_rise keep h i, fun f hf => ?_, fun f hf => ?_⟩
  · rcases e f hf with ⟨g, hg, j, rfl⟩ | hf
    · exact h.name g hg
    · exact h.name f hf
  · rcases e f hf with ⟨g, hg, j, rfl⟩ | hf
    · have := (left_le keep j g (h.sure g hg)).2
      show leftOf keep j g ≤ (g.by'.take (leftOf keep j g)).length
      rw [List.length_take]
      omega
    · exact h.sure f hf
theorem mid_find (keep : List Int) {l : List FileIn} (h : Fok l) (i : Nat) (hi : i < l.length) : find l[i].nm (midC keep l i) = some l[i] := by
  refine (find_some (mid_rise keep h i) _ _).2 ⟨?_, rfl⟩
  rw [mid_at keep l i hi]
  exact List.mem_append_right _ List.mem_cons_self
theorem del_mid {A B : List FileIn} {f : FileIn} (h : (A ++ f :: B).Pairwise fun a b => bytesBefore a.nm b.nm = true) : del f.nm (A ++ f :: B) = A ++ B := by
  obtain ⟨h1, h2, h3⟩ := List.pairwise_append.1 h
  obtain ⟨h4, h5⟩ := List.pairwise_cons.1 h2
  have ne : ∀ {a b : List UInt8}, bytesBefore a b = true → a ≠ b := fun {a b} h e => by rw [e, WideAt.bytes_irrefl] at h; cases h
  unfold del
  rw [List.filter_append, List.filter_cons_of_neg (by simp)]
  rw [List.filter_eq_self.2 fun a ha => by rw [decide_eq_false (ne (h3 a ha f (by simp)))]; rfl]
  rw [List.filter_eq_self.2 fun a ha => by rw [decide_eq_false (ne (h4 a ha)).symm]; rfl]
theorem ins_mid {g : FileIn} : ∀ {A B : List FileIn}, (∀ a ∈ A, bytesBefore a.nm g.nm = true) → (∀ b ∈ B, bytesBefore g.nm b.nm = true) → ins g (A ++ B) = A ++ g :: B
  | [], [], _, _ => rfl
  | [], b :: B, _, h => by
    show ins g (b :: B) = _
    unfold ins
    rw [if_pos (h b (by simp))]
    rfl
  | a :: A, B, h1, h2 => by
    have ha := h1 a (by simp)
    have hn : ¬ bytesBefore g.nm a.nm = true := fun h => by
      have := WideShapes.bytes_trans _ _ _ ha h
      rw [WideAt.bytes_irrefl] at this
      cases this
    show ins g (a :: (A ++ B)) = _
    unfold ins
    rw [if_neg hn, ins_mid (fun x hx => h1 x (by simp [hx])) h2]
    rfl
theorem put_mid {A B : List FileIn} {f g : FileIn} (e : g.nm = f.nm) (h : (A ++ f :: B).Pairwise fun a b => bytesBefore a.nm b.nm = true) : putF g (A ++ f :: B) = A ++ g :: B := by
  unfold putF
  rw [e, del_mid h]
  obtain ⟨h1, h2, h3⟩ := List.pairwise_append.1 h
  obtain ⟨h4, h5⟩ := List.pairwise_cons.1 h2
  exact ins_mid (fun a ha => by rw [e]; exact h3 a ha f (by simp)) (fun b hb => by rw [e]; exact h4 b hb)
theorem mid_gone (keep : List Int) {l : List FileIn} (h : Fok l) (i : Nat) (hi : i < l.length) (h0 : leftOf keep i l[i] = 0) : del l[i].nm (midC keep l i) = midC keep l (i + 1) := by
  have hr := mid_rise keep h i
  rw [mid_at keep l i hi] at hr ⊢
  rw [del_mid hr, mid_next keep l i hi, if_pos h0]
  rfl
theorem mid_kept (keep : List Int) {l : List FileIn} (h : Fok l) (i : Nat) (hi : i < l.length) (h0 : leftOf keep i l[i] ≠ 0) : putF ⟨l[i].nm, l[i].by'.take (leftOf keep i l[i]), leftOf keep i l[i]⟩ (midC keep l i) = midC keep l (i + 1) := by
  have hr := mid_rise keep h i
  rw [mid_at keep l i hi] at hr ⊢
  refine (put_mid (f := l[i]) (g := ⟨l[i].nm, l[i].by'.take (leftOf keep i l[i]), leftOf keep i l[i]⟩) rfl hr).trans ?_
  rw [mid_next keep l i hi, if_neg h0]
  rfl
theorem PD.tight {w : World} {g m n : Nat} {d : DkIn} (h : PD w g m n d) : PD w g m d.files.length d := by
  refine ⟨h.row, ?_, h.ne⟩
  obtain ⟨es, clock, hb, F, hs, hD⟩ := h.own
  refine ⟨es, clock, hb, F, ?_, hD⟩
  have := congrArg Maps.size hD
  simp [Maps.size, datum, length_sorted] at this
  omega
end Dsk
end Go.Proofs.Ytnbmjbelmcibgaa
