/- What is put is taken as it was; what is taken was put so: in plain words. -/
import Derived.Test.YtbjlkeneeodghaaDoorCmdI
set_option linter.unusedSimpArgs false
set_option linter.unusedVariables false
namespace Go.Proofs.YtbjlkeneeodghaaDoor
open Go.RowKit Go.Great
namespace Cmd
open Pen (bs bs_append uintB intB I64 intS uintS doneS int_put int_back int_in uint_put uint_back)
open Rec (Stk Stks stkVals)
/-- Behind the last number there is none. -/
def Clear (c : CmdIn) : Prop := ∀ i, 19 ≤ i → c.num i = 0
theorem tkN_put (c : CmdIn) (l : List Nat) (h : ∀ i ∈ l, I64 (c.num i)) (rest : List UInt8) : ∀ f, tkN l f (some (numB c l ++ rest)) = (fun j => if j ∈ l then c.num j else f j, some rest) := by
  induction l with
  | nil => intro f; simp [tkN, numB]
  | cons i l ih =>
    intro f
    have e : numB c (i :: l) ++ rest = intB (c.num i) ++ (numB c l ++ rest) := by simp [numB]
    rw [e, tkN, int_put (h i (List.mem_cons_self ..)), ih (fun j hj => h j (List.mem_cons_of_mem _ hj))]
    congr 1
    funext j
    by_cases h1 : j ∈ l
    · rw [if_pos h1, if_pos (List.mem_cons_of_mem _ h1)]
    · rw [if_neg h1]
      by_cases h2 : j = i
      · rw [if_pos h2, if_pos (by rw [h2]; exact List.mem_cons_self ..), h2]
      · rw [if_neg h2, if_neg (by simp [h1, h2])]
theorem tkN_off (l : List Nat) (j : Nat) (hj : j ∉ l) : ∀ f o, (tkN l f o).1 j = f j := by
  induction l with
  | nil => intro f o; rfl
  | cons i l ih =>
    intro f o
    have h1 : j ∉ l := fun h => hj (List.mem_cons_of_mem _ h)
    have h2 : j ≠ i := fun h => hj (by rw [h]; exact List.mem_cons_self ..)
    rw [tkN, ih h1]
    simp only [if_neg h2]
theorem tkN_back (l : List Nat) (hl : l.Nodup) (r : List UInt8) : ∀ f o, (tkN l f o).2 = some r → o = some ((l.flatMap fun i => intB ((tkN l f o).1 i)) ++ r) ∧ ∀ i ∈ l, I64 ((tkN l f o).1 i) := by
  induction l with
  | nil => intro f o h; exact ⟨h, fun i hi => by cases hi⟩
  | cons i l ih =>
    intro f o h
    obtain ⟨hi, hl'⟩ := List.nodup_cons.1 hl
    rw [tkN] at h ⊢
    obtain ⟨h1, h2⟩ := ih hl' _ _ h
    have h3 := int_back h1
    have e : (tkN l (fun j => if j = i then (intS o).1 else f j) (intS o).2).1 i = (intS o).1 := by rw [tkN_off l i hi]; simp
    refine ⟨?_, fun j hj => ?_⟩
    · rw [List.flatMap_cons, e]
      rw [h3]
      simp
      rw [← h3]
    · rcases List.mem_cons.1 hj with rfl | hj
      · rw [e]; exact int_in o
      · exact h2 j hj
theorem tkS_put (l : List Stk) (h : Snum l) (rest : List UInt8) : tkS l.length (some (stksB l ++ rest)) = (l, some rest) := by
  induction l with
  | nil => simp [tkS, stksB]
  | cons x l ih =>
    have h0 : I64 x.1 ∧ I64 x.2 := h 0 (by simp)
    have e : stksB (x :: l) ++ rest = intB x.1 ++ (intB x.2 ++ (stksB l ++ rest)) := by simp [stksB]
    have ih' := ih fun i hi => h (i + 1) (by simpa using hi)
    rw [e, List.length_cons, tkS, int_put h0.1, int_put h0.2, ih']
theorem tkS_back (n : Nat) (r : List UInt8) : ∀ o, (tkS n o).2 = some r → o = some (stksB (tkS n o).1 ++ r) ∧ Snum (tkS n o).1 := by
  induction n with
  | zero => intro o h; exact ⟨by simpa [tkS, stksB] using h, fun i hi => by simp [tkS] at hi⟩
  | succ n ih =>
    intro o h
    rw [tkS] at h ⊢
    obtain ⟨h1, h2⟩ := ih _ h
    have h3 := int_back h1
    have h4 := int_back h3
    refine ⟨?_, fun i hi => ?_⟩
    · have e : stksB (((intS o).1, (intS (intS o).2).1) :: (tkS n (intS (intS o).2).2).1) = intB (intS o).1 ++ intB (intS (intS o).2).1 ++ stksB (tkS n (intS (intS o).2).2).1 := by simp [stksB]
      dsimp only
      rw [e, List.append_assoc, List.append_assoc]
      exact h4
    · cases i with
      | zero => exact ⟨int_in _, int_in _⟩
      | succ i => exact h2 i (by simpa using hi)
theorem stS_put (l : List Stk) (h : Snum l) (h8 : l.length ≤ 8) (rest : List UInt8) : stS (some (stkB l ++ rest)) = (l, some rest) := by
  unfold stS stkB
  rw [List.append_assoc, uint_put 8 (l.length : Int) (by omega) (by omega) (by omega)]
  exact tkS_put l h rest
theorem stS_back (o : Cat.Left) (r : List UInt8) (h : (stS o).2 = some r) : o = some (stkB (stS o).1 ++ r) ∧ Snum (stS o).1 ∧ (stS o).1.length ≤ 8 := by
  unfold stS at h ⊢
  obtain ⟨h1, h2⟩ := tkS_back _ r _ h
  have h3 := uint_back h1
  obtain ⟨b0, b1, -⟩ := Pen.uint_bounds 8 o (by decide)
  have hl := tkS_len (uintS 8 o).1.toNat (uintS 8 o).2
  refine ⟨?_, h2, by rw [hl]; omega⟩
  unfold stkB
  rw [hl, Int.toNat_of_nonneg b0, List.append_assoc]
  exact h3
theorem kind_of {c : CmdIn} (h : fn c.kind ≠ []) : 1 ≤ c.kind ∧ c.kind ≤ 25 := by
  apply Decidable.byContradiction
  intro hn
  exact h (by unfold fn; rw [fi_out hn]; rfl)
theorem fi_ne {k : Int} (h : fn k ≠ []) : fi k ≠ [] := fun e => h (by unfold fn; rw [e]; rfl)
theorem fn_ne {k : Int} (h : fi k ≠ []) : fn k ≠ [] := fun e => h (by unfold fn at e; exact List.map_eq_nil_iff.1 e)
theorem chk_fn {c : CmdIn} (h : chkV c = 0) : fn c.kind ≠ [] ∧ Lok c ∧ bads c 19 = false := by
  unfold chkV at h
  split at h
  · cases h
  · rename_i h1
    split at h
    · cases h
    · rename_i h2
      exact ⟨fun e => h1 (Or.inl e), Decidable.byContradiction fun e => h1 (Or.inr e), by simpa using h2⟩
theorem chk_of {c : CmdIn} (h1 : fn c.kind ≠ []) (h2 : Lok c) (h3 : bads c 19 = false) : chkV c = 0 := by
  unfold chkV
  rw [if_neg (by rintro (e | e); exact h1 e; exact e h2), if_neg (by rw [h3]; decide)]
theorem isIn_fn (k : Int) (i : Nat) (hi : i < 19) : isIn (fn k) (nm i) = true ↔ i ∈ fi k := by
  rw [isIn_iff]
  unfold fn
  rw [List.mem_map]
  constructor
  · rintro ⟨j, hj, e⟩
    rw [← nm_inj (fi_small k j hj) hi e]
    exact hj
  · exact fun h => ⟨i, h, rfl⟩
theorem bads_iff (c : CmdIn) : bads c 19 = false ↔ ∀ i, i < 19 → i ∉ fi c.kind → c.num i = 0 := by
  unfold bads
  rw [List.any_eq_false]
  constructor
  · intro h i hi hni
    have := h i (by simpa using hi)
    unfold badNum at this
    by_cases h0 : c.num i = 0
    · exact h0
    · exfalso
      apply this
      rw [decide_eq_true h0]
      cases hq : isIn (fn c.kind) (nm i) with
      | true => exact absurd ((isIn_fn _ _ hi).1 hq) hni
      | false => rfl
  · intro h i hi
    have hi' : i < 19 := by simpa using hi
    unfold badNum
    by_cases hm : i ∈ fi c.kind
    · rw [(isIn_fn _ _ hi').2 hm]; simp
    · rw [h i hi' hm]; simp
/-- The command's parts are read again, whatever comes behind. -/
theorem rdC_put (c : CmdIn) (hc : Cok c) (hz : Clear c) (h : chkV c = 0) (rest : List UInt8) : Eqv (rdC (cmdB c ++ rest)).1 c ∧ (rdC (cmdB c ++ rest)).2 = some rest ∧ (uintS 25 (some (cmdB c ++ rest))).1 = c.kind := by
  obtain ⟨h1, ⟨l1, l2, l3⟩, h3⟩ := chk_fn h
  obtain ⟨k1, k2⟩ := kind_of h1
  have hb := (bads_iff c).1 h3
  have hnum : (fun j => if j ∈ fi c.kind then c.num j else (0 : Int)) = c.num := by
    funext j
    by_cases hj : j ∈ fi c.kind
    · rw [if_pos hj]
    · rw [if_neg hj]
      by_cases h19 : j < 19
      · exact (hb j h19 hj).symm
      · exact (hz j (by omega)).symm
  have hI : ∀ i ∈ fi c.kind, I64 (c.num i) := fun i hi => hc.num i (fi_small _ i hi)
  by_cases h14 : c.kind = 14
  · have e : cmdB c ++ rest = uintB c.kind ++ (numB c (fi c.kind) ++ (stkB c.gives ++ (stkB c.wants ++ rest))) := by unfold cmdB; rw [if_pos h14]; simp
    unfold rdC
    rw [e, uint_put 25 c.kind (by omega) k2 (by omega)]
    dsimp only
    rw [tkN_put c (fi c.kind) hI, if_pos h14]
    dsimp only
    rw [stS_put c.gives hc.gives l1]
    dsimp only
    rw [stS_put c.wants hc.wants l2]
    exact ⟨⟨rfl, hnum, rfl, rfl⟩, rfl, rfl⟩
  · have e : cmdB c ++ rest = uintB c.kind ++ (numB c (fi c.kind) ++ rest) := by unfold cmdB; rw [if_neg h14]; simp
    have hl := l3 h14
    have g0 : c.gives = [] := List.eq_nil_of_length_eq_zero (by omega)
    have w0 : c.wants = [] := List.eq_nil_of_length_eq_zero (by omega)
    unfold rdC
    rw [e, uint_put 25 c.kind (by omega) k2 (by omega)]
    dsimp only
    rw [tkN_put c (fi c.kind) hI, if_neg h14]
    exact ⟨⟨rfl, hnum, g0.symm, w0.symm⟩, rfl, rfl⟩
theorem take_put (c : CmdIn) (hc : Cok c) (hz : Clear c) (h : chkV c = 0) : Eqv (takeV (cmdB c)).1 c ∧ (takeV (cmdB c)).2 = 0 := by
  obtain ⟨h1, h2, h3⟩ := rdC_put c hc hz h []
  rw [List.append_nil] at h1 h2 h3
  unfold takeV
  rw [if_pos ⟨by rw [h2]; rfl, by rw [h3]; exact fi_ne (chk_fn h).1⟩]
  exact ⟨h1, rfl⟩
theorem take_more (c : CmdIn) (hc : Cok c) (hz : Clear c) (h : chkV c = 0) (x : UInt8) (rest : List UInt8) : (takeV (cmdB c ++ x :: rest)).2 = 2 := by
  obtain ⟨h1, h2, h3⟩ := rdC_put c hc hz h (x :: rest)
  unfold takeV
  rw [if_neg (by rw [h2]; rintro ⟨e, -⟩; cases e)]
/-- What is taken was put so. -/
theorem put_take (s : List UInt8) (h : (takeV s).2 = 0) : Cok (takeV s).1 ∧ Clear (takeV s).1 ∧ chkV (takeV s).1 = 0 ∧ cmdB (takeV s).1 = s := by
  unfold takeV at h ⊢
  split at h
  case isFalse => cases h
  case isTrue hd =>
  rw [if_pos hd]
  obtain ⟨hd1, hd2⟩ := hd
  have hsome : (rdC s).2 = some [] := by
    cases hq : (rdC s).2 with
    | none => rw [hq] at hd1; cases hd1
    | some l => rw [hq] at hd1; cases l with
      | nil => rfl
      | cons a b => cases hd1
  obtain ⟨b0, b1, -⟩ := Pen.uint_bounds 25 (some s) (by decide)
  unfold rdC at hsome ⊢
  obtain ⟨u, hu⟩ : ∃ u, uintS 25 (some s) = u := ⟨_, rfl⟩
  rw [hu] at hsome hd2 b0 b1 ⊢
  dsimp only at hsome ⊢
  have hk : 1 ≤ u.1 ∧ u.1 ≤ 25 := by
    apply Decidable.byContradiction
    intro hn
    exact hd2 (fi_out hn)
  have hkI : I64 u.1 := ⟨by omega, by omega⟩
  have hoff := fun j hj => tkN_off (fi u.1) j hj (fun _ => 0) u.2
  by_cases h14 : u.1 = 14
  · rw [if_pos h14] at hsome ⊢
    obtain ⟨w1, w2, w3⟩ := stS_back _ _ hsome
    obtain ⟨g1, g2, g3⟩ := stS_back _ _ w1
    obtain ⟨t1, t2⟩ := tkN_back (fi u.1) (fi_nodup u.1) _ (fun _ => 0) u.2 g1
    have s1 := uint_back (most := 25) (o := some s) (by rw [hu]; exact t1)
    rw [hu] at s1
    refine ⟨⟨hkI, fun i _ => ?_, g2, w2, Nat.le_trans g3 (by decide), Nat.le_trans w3 (by decide)⟩, fun i hi => ?_, chk_of (fn_ne hd2) ⟨g3, w3, fun h => absurd h14 h⟩ ((bads_iff _).2 fun i _ hni => hoff i hni), ?_⟩
    · by_cases hm : i ∈ fi u.1
      · exact t2 i hm
      · show I64 ((tkN (fi u.1) (fun _ => 0) u.2).1 i)
        rw [hoff i hm]; exact ⟨by decide, by decide⟩
    · exact hoff i fun hm => by have := fi_small _ i hm; omega
    · have := Option.some.inj s1
      rw [this]
      unfold cmdB numB
      rw [if_pos h14]
      simp
  · rw [if_neg h14] at hsome ⊢
    obtain ⟨t1, t2⟩ := tkN_back (fi u.1) (fi_nodup u.1) _ (fun _ => 0) u.2 hsome
    have s1 := uint_back (most := 25) (o := some s) (by rw [hu]; exact t1)
    rw [hu] at s1
    refine ⟨⟨hkI, fun i _ => ?_, fun i hi => absurd hi (Nat.not_lt_zero _), fun i hi => absurd hi (Nat.not_lt_zero _), Nat.zero_le _, Nat.zero_le _⟩, fun i hi => ?_, chk_of (fn_ne hd2) ⟨Nat.zero_le _, Nat.zero_le _, fun _ => rfl⟩ ((bads_iff _).2 fun i _ hni => hoff i hni), ?_⟩
    · by_cases hm : i ∈ fi u.1
      · exact t2 i hm
      · show I64 ((tkN (fi u.1) (fun _ => 0) u.2).1 i)
        rw [hoff i hm]; exact ⟨by decide, by decide⟩
    · exact hoff i fun hm => by have := fi_small _ i hm; omega
    · have := Option.some.inj s1
      rw [this]
      unfold cmdB numB
      rw [if_neg h14]
      simp
/-- Bytes that are cut are none. -/
theorem take_cut (c : CmdIn) (hc : Cok c) (hz : Clear c) (h : chkV c = 0) (n : Nat) (hn : n < (cmdB c).length) : (takeV ((cmdB c).take n)).2 = 2 := by
  rcases (show (takeV ((cmdB c).take n)).2 = 2 ∨ (takeV ((cmdB c).take n)).2 = 0 from by unfold takeV; split; exact Or.inr rfl; exact Or.inl rfl) with e | e
  · exact e
  · exfalso
    obtain ⟨a1, a2, a3, a4⟩ := put_take _ e
    have hsplit : cmdB c = (cmdB c).take n ++ (cmdB c).drop n := (List.take_append_drop n _).symm
    cases hd : (cmdB c).drop n with
    | nil =>
      have := congrArg List.length hd
      rw [List.length_drop, List.length_nil] at this
      omega
    | cons x r =>
      rw [hd, ← a4] at hsplit
      have h1 := take_more _ a1 a2 a3 x r
      rw [← hsplit, (take_put c hc hz h).2] at h1
      cases h1
theorem takeV_err (s : List UInt8) : (takeV s).2 = 0 ∨ (takeV s).2 = 2 := by unfold takeV; split; exact Or.inl rfl; exact Or.inr rfl
end Cmd
end Go.Proofs.YtbjlkeneeodghaaDoor
