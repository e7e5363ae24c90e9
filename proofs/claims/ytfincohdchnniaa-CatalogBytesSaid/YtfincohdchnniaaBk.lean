/- Texts put together: CatL, CatL2, OrdU, TakA, TakN. -/
import Derived.Test.YtfincohdchnniaaBi
import Derived.Test.YtfincohdchnniaaBh
import Derived.Test.YtfincohdchnniaaBe
import Derived.Test.YtfincohdchnniaaChecked
import Derived.WalkKit
import Derived.Deep.RegionHeld3
import Derived.Test.YtfincohdchnniaaBf
import Derived.Test.YtfincohdchnniaaBa
import Derived.Deep.RegionLaw
import Derived.Deep.AppendLies
set_option linter.all false
namespace Go.Proofs.Ytfincohdchnniaa
open Go.RowKit
namespace Cat
open Rec (BlueIn Stk Stks Came bchk inB)
open Pen (bs bs_append uintB uintS uint_put uint_back uint_bounds doneS)
abbrev Left := Option (List UInt8)
def rdI (o : Left) : Int × Left := uintS 9223372036854775807 o
/-- Something done so often. -/
def it {α : Type} (f : α → α) : Nat → α → α
  | 0, x => x
  | n + 1, x => f (it f n x)
theorem it_front {α : Type} (f : α → α) (n : Nat) (x : α) : it f (n + 1) x = it f n (f x) := by
  induction n with
  | zero => rfl
  | succ n ih => show f (it f (n + 1) x) = f (it f n (f x)); rw [ih]
theorem it_stay {α : Type} (f : α → α) (n : Nat) (x : α) (h : f x = x) : it f n x = x := by
  induction n with
  | zero => rfl
  | succ n ih => show f (it f n x) = x; rw [ih, h]
theorem it_add {α : Type} (f : α → α) (k n : Nat) (x : α) (h : f (it f k x) = it f k x) (hk : k ≤ n) : it f n x = it f k x := by
  induction n with
  | zero => have : k = 0 := by omega
            subst this; rfl
  | succ n ih =>
    by_cases e : k = n + 1
    · subst e; rfl
    · show f (it f n x) = _
      rw [ih (by omega), h]
theorem it_put {α : Type} (f : List α × Left → List α × Left) (B : α → List UInt8) (P : α → Prop) (g : α → α) (hf : ∀ a x t, P x → f (a, some (B x ++ t)) = (a ++ [g x], some t)) (xs : List α) (hx : ∀ x ∈ xs, P x) (a : List α) (t : List UInt8) : it f xs.length (a, some (xs.flatMap B ++ t)) = (a ++ xs.map g, some t) := by
  induction xs generalizing a with
  | nil => simp [it]
  | cons x xs ih =>
    rw [List.length_cons, it_front, List.flatMap_cons, List.append_assoc, hf a x _ (hx x List.mem_cons_self), ih (fun y hy => hx y (List.mem_cons_of_mem _ hy))]
    simp
theorem it_back {α : Type} (f : List α × Left → List α × Left) (B : α → List UInt8) (hf : ∀ s l', (f s).2 = some l' → ∃ x, (f s).1 = s.1 ++ [x] ∧ s.2 = some (B x ++ l')) (n : Nat) (s : List α × Left) (l' : List UInt8) (h : (it f n s).2 = some l') : ∃ xs : List α, (it f n s).1 = s.1 ++ xs ∧ xs.length = n ∧ s.2 = some (xs.flatMap B ++ l') := by
  induction n generalizing l' with
  | zero => exact ⟨[], by simp [it], rfl, by simpa [it] using h⟩
  | succ n ih =>
    obtain ⟨x, h1, h2⟩ := hf (it f n s) l' h
    obtain ⟨xs, h3, h4, h5⟩ := ih _ h2
    refine ⟨xs ++ [x], ?_, by simp [h4], by rw [h5]; simp⟩
    show (f (it f n s)).1 = _
    rw [h1, h3, List.append_assoc]
theorem it_all {α : Type} (f : List α × Left → List α × Left) (P : α → Prop) (hf : ∀ s, f s = s ∨ ∃ x o, P x ∧ f s = (s.1 ++ [x], o)) (n : Nat) (s : List α × Left) (h : ∀ x ∈ s.1, P x) : (∀ x ∈ (it f n s).1, P x) ∧ (it f n s).1.length ≤ s.1.length + n := by
  induction n with
  | zero => exact ⟨h, Nat.le_refl _⟩
  | succ n ih =>
    rcases hf (it f n s) with e | ⟨x, o, hx, e⟩
    · refine ⟨?_, ?_⟩
      · show ∀ x ∈ (f (it f n s)).1, P x
        rw [e]; exact ih.1
      · show (f (it f n s)).1.length ≤ _
        rw [e]; have := ih.2; omega
    · refine ⟨?_, ?_⟩
      · show ∀ x ∈ (f (it f n s)).1, P x
        rw [e]
        intro y hy
        rcases List.mem_append.1 hy with hy | hy
        · exact ih.1 y hy
        · rw [List.mem_singleton.1 hy]; exact hx
      · show (f (it f n s)).1.length ≤ _
        rw [e]; have := ih.2; simp; omega
/-- One need more. -/
def stepN (s : List Stk × Left) : List Stk × Left := if s.2.isNone then s else (s.1 ++ [((rdI s.2).1, (rdI (rdI s.2).2).1)], (rdI (rdI s.2).2).2)
/-- What is read ahead of needs: three numbers, and how many needs. -/
def blueT1 (o : Left) : Int × Int × Int × Int × Left := ((rdI o).1, (rdI (rdI o).2).1, (rdI (rdI (rdI o).2).2).1, (uintS 8 (rdI (rdI (rdI o).2).2).2).1, (uintS 8 (rdI (rdI (rdI o).2).2).2).2)
def needsT (n : Int) (o : Left) : List Stk × Left := it stepN n.toNat ([], o)
def blueT (o : Left) : BlueIn × Left :=
  (⟨(blueT1 o).1, (blueT1 o).2.1, (blueT1 o).2.2.1, (needsT (blueT1 o).2.2.2.1 (blueT1 o).2.2.2.2).1, none, 0, (rdI (needsT (blueT1 o).2.2.2.1 (blueT1 o).2.2.2.2).2).1, (rdI (rdI (needsT (blueT1 o).2.2.2.1 (blueT1 o).2.2.2.2).2).2).1, (rdI (rdI (rdI (needsT (blueT1 o).2.2.2.1 (blueT1 o).2.2.2.2).2).2).2).1⟩,
   (rdI (rdI (rdI (needsT (blueT1 o).2.2.2.1 (blueT1 o).2.2.2.2).2).2).2).2)
def stepB (s : List BlueIn × Left) : List BlueIn × Left := if s.2.isNone then s else (s.1 ++ [(blueT s.2).1], (blueT s.2).2)
def bayT (o : Left) : BayIn × Left := (⟨(rdI o).1, (rdI (rdI o).2).1, (rdI (rdI (rdI o).2).2).1, (rdI (rdI (rdI (rdI o).2).2).2).1⟩, (rdI (rdI (rdI (rdI o).2).2).2).2)
def stepY (s : List BayIn × Left) : List BayIn × Left := if s.2.isNone then s else (s.1 ++ [(bayT s.2).1], (bayT s.2).2)
def bluesT (n : Int) (o : Left) : List BlueIn × Left := it stepB n.toNat ([], o)
def baysT (n : Int) (o : Left) : List BayIn × Left := it stepY n.toNat ([], o)
/-- A blueprint without where it stands. -/
def flatB (b : BlueIn) : BlueIn := { b with addr := none, cap := 0 }
/-- A catalogue without where it stands. -/
def flatC (c : CatIn) : CatIn := { c with blues := c.blues.map flatB, baddr := none, bcap := 0, yaddr := none, ycap := 0 }
/-- Types and blueprints. -/
def takeT1 (o : Left) : Int × List BlueIn × Left := ((rdI o).1, bluesT (uintS 16 (rdI o).2).1 (uintS 16 (rdI o).2).2)
/-- Places and bays. -/
def takeT2 (o : Left) : Int × List BayIn × Left := ((rdI o).1, baysT (uintS 8 (rdI o).2).1 (uintS 8 (rdI o).2).2)
def takeT (o : Left) : CatIn × Left :=
  (⟨(takeT1 o).1, (takeT1 o).2.1, none, 0, (takeT2 (takeT1 o).2.2).1, (takeT2 (takeT1 o).2.2).2.1, none, 0, (rdI (takeT2 (takeT1 o).2.2).2.2).1, (rdI (rdI (takeT2 (takeT1 o).2.2).2.2).2).1, (rdI (rdI (rdI (takeT2 (takeT1 o).2.2).2.2).2).2).1, (rdI (rdI (rdI (rdI (takeT2 (takeT1 o).2.2).2.2).2).2).2).1⟩,
   (rdI (rdI (rdI (rdI (takeT2 (takeT1 o).2.2).2.2).2).2).2).2)
def noc : CatIn := ⟨0, [], none, 0, 0, [], none, 0, 0, 0, 0, 0⟩
def takeV (l : List UInt8) : CatIn × Int := if doneS (takeT (some l)).2 && decide (chkC (takeT (some l)).1 = 0) then ((takeT (some l)).1, 0) else (noc, 2)
-- there
def Ok (n : Int) : Prop := 0 ≤ n ∧ n ≤ 9223372036854775807
theorem rdI_put {n : Int} (h : Ok n) (l : List UInt8) : rdI (some (uintB n ++ l)) = (n, some l) := uint_put _ n h.1 h.2 h.2 l
theorem numsB_cons (n : Int) (l : List Int) : numsB (n :: l) = uintB n ++ numsB l := rfl
theorem numsB_nil : numsB [] = [] := rfl
theorem stepN_put (a : List Stk) (x : Stk) (t : List UInt8) (h : Ok x.1 ∧ Ok x.2) : stepN (a, some (stkB x ++ t)) = (a ++ [id x], some t) := by
  unfold stepN stkB
  simp only [numsB_cons, numsB_nil, List.append_assoc, List.append_nil, Option.isNone_some, Bool.false_eq_true, if_false, rdI_put h.1, rdI_put h.2]
  rfl
def OkB (b : BlueIn) : Prop := Ok b.makes ∧ Ok b.per ∧ Ok b.time ∧ b.needs.length ≤ 8 ∧ (∀ x ∈ b.needs, Ok x.1 ∧ Ok x.2) ∧ Ok b.copy ∧ Ok b.study ∧ Ok b.most
theorem blueT_put (b : BlueIn) (t : List UInt8) (h : OkB b) : blueT (some (blueB b ++ t)) = (flatB b, some t) := by
  obtain ⟨h1, h2, h3, h4, h5, h6, h7, h8⟩ := h
  have e1 : blueT1 (some (blueB b ++ t)) = (b.makes, b.per, b.time, (b.needs.length : Int), some (b.needs.flatMap stkB ++ (tailB b ++ t))) := by
    unfold blueT1 blueB headB
    simp only [numsB_cons, numsB_nil, List.append_assoc, List.append_nil, rdI_put h1, rdI_put h2, rdI_put h3, uint_put 8 (b.needs.length : Int) (by omega) (by omega) (by omega)]
  have e2 : needsT (b.needs.length : Int) (some (b.needs.flatMap stkB ++ (tailB b ++ t))) = (b.needs, some (tailB b ++ t)) := by
    unfold needsT
    rw [Int.toNat_natCast, it_put stepN stkB (fun x => Ok x.1 ∧ Ok x.2) id stepN_put b.needs h5]
    simp
  unfold blueT
  rw [e1]
  simp only [e2]
  unfold tailB
  simp only [numsB_cons, numsB_nil, List.append_assoc, List.append_nil, rdI_put h6, rdI_put h7, rdI_put h8]
  rfl
theorem stepB_put (a : List BlueIn) (x : BlueIn) (t : List UInt8) (h : OkB x) : stepB (a, some (blueB x ++ t)) = (a ++ [flatB x], some t) := by
  unfold stepB
  simp only [Option.isNone_some, Bool.false_eq_true, if_false, blueT_put x t h]
def OkY (b : BayIn) : Prop := Ok b.place ∧ Ok b.make ∧ Ok b.lab ∧ Ok b.rate
theorem stepY_put (a : List BayIn) (x : BayIn) (t : List UInt8) (h : OkY x) : stepY (a, some (bayB x ++ t)) = (a ++ [id x], some t) := by
  obtain ⟨h1, h2, h3, h4⟩ := h
  unfold stepY bayT bayB
  simp only [numsB_cons, numsB_nil, List.append_assoc, List.append_nil, Option.isNone_some, Bool.false_eq_true, if_false, rdI_put h1, rdI_put h2, rdI_put h3, rdI_put h4]
  rfl
structure OkC (c : CatIn) : Prop where
  types : Ok c.types
  nblues : c.blues.length ≤ 16
  blues : ∀ b ∈ c.blues, OkB b
  places : Ok c.places
  nbays : c.bays.length ≤ 8
  bays : ∀ b ∈ c.bays, OkY b
  chars : Ok c.chars
  broker : Ok c.broker
  least : Ok c.least
  sales : Ok c.sales
theorem takeT_put (c : CatIn) (t : List UInt8) (h : OkC c) : takeT (some (putB c ++ t)) = (flatC c, some t) := by
  have e1 : takeT1 (some (putB c ++ t)) = (c.types, c.blues.map flatB, some (numsB [c.places, (c.bays.length : Int)] ++ (c.bays.flatMap bayB ++ (numsB [c.chars, c.broker, c.least, c.sales] ++ t)))) := by
    unfold takeT1 putB
    have hn := h.nblues
    simp only [numsB_cons, numsB_nil, List.append_assoc, List.append_nil, rdI_put h.types, uint_put 16 (c.blues.length : Int) (by omega) (by omega) (by omega)]
    unfold bluesT
    rw [Int.toNat_natCast, it_put stepB blueB OkB flatB stepB_put c.blues h.blues]
    simp
  have e2 : takeT2 (some (numsB [c.places, (c.bays.length : Int)] ++ (c.bays.flatMap bayB ++ (numsB [c.chars, c.broker, c.least, c.sales] ++ t)))) = (c.places, c.bays, some (numsB [c.chars, c.broker, c.least, c.sales] ++ t)) := by
    unfold takeT2
    have hn := h.nbays
    simp only [numsB_cons, numsB_nil, List.append_assoc, List.append_nil, rdI_put h.places, uint_put 8 (c.bays.length : Int) (by omega) (by omega) (by omega)]
    unfold baysT
    rw [Int.toNat_natCast, it_put stepY bayB OkY id stepY_put c.bays h.bays]
    simp
  unfold takeT
  rw [e1]
  simp only [e2]
  simp only [numsB_cons, numsB_nil, List.append_assoc, List.append_nil, rdI_put h.chars, rdI_put h.broker, rdI_put h.least, rdI_put h.sales]
  rfl
-- back
theorem rdI_back {o : Left} {l' : List UInt8} (h : (rdI o).2 = some l') : o = some (uintB (rdI o).1 ++ l') := uint_back h
theorem stepN_back (s : List Stk × Left) (l' : List UInt8) (h : (stepN s).2 = some l') : ∃ x, (stepN s).1 = s.1 ++ [x] ∧ s.2 = some (stkB x ++ l') := by
  unfold stepN at h ⊢
  cases hs : s.2 with
  | none => rw [if_pos (by rw [hs]; rfl), hs] at h; cases h
  | some l =>
    rw [← hs]
    rw [if_neg (by rw [hs]; simp)] at h ⊢
    have e2 := rdI_back h
    have e1 := rdI_back e2
    refine ⟨_, rfl, e1.trans ?_⟩
    simp only [stkB, numsB_cons, numsB_nil, List.append_assoc, List.append_nil]
theorem blueT_back (o : Left) (l' : List UInt8) (h : (blueT o).2 = some l') : o = some (blueB (blueT o).1 ++ l') := by
  unfold blueT at h ⊢
  simp only at h ⊢
  have e3 := rdI_back h
  have e2 := rdI_back e3
  have e1 := rdI_back e2
  obtain ⟨xs, x1, x2, x3⟩ := it_back stepN stkB stepN_back _ _ _ e1
  simp only [List.nil_append] at x1
  unfold blueB headB tailB
  simp only
  have y4 := uint_back (most := 8) x3
  have y3 := rdI_back y4
  have y2 := rdI_back y3
  have y1 := rdI_back y2
  have hl : ((needsT (blueT1 o).2.2.2.1 (blueT1 o).2.2.2.2).1.length : Int) = (blueT1 o).2.2.2.1 := by
    unfold needsT
    rw [x1, x2]
    exact Int.toNat_of_nonneg (uint_bounds 8 _ (by omega)).1
  rw [hl]
  have hx : (needsT (blueT1 o).2.2.2.1 (blueT1 o).2.2.2.2).1 = xs := x1
  rw [hx]
  refine y1.trans ?_
  simp only [numsB_cons, numsB_nil, List.append_assoc, List.append_nil]
  rfl
theorem stepB_back (s : List BlueIn × Left) (l' : List UInt8) (h : (stepB s).2 = some l') : ∃ x, (stepB s).1 = s.1 ++ [x] ∧ s.2 = some (blueB x ++ l') := by
  unfold stepB at h ⊢
  cases hs : s.2 with
  | none => rw [if_pos (by rw [hs]; rfl), hs] at h; cases h
  | some l =>
    rw [← hs]
    rw [if_neg (by rw [hs]; simp)] at h ⊢
    exact ⟨_, rfl, blueT_back _ _ h⟩
theorem bayT_back (o : Left) (l' : List UInt8) (h : (bayT o).2 = some l') : o = some (bayB (bayT o).1 ++ l') := by
  unfold bayT at h ⊢
  simp only at h ⊢
  have e4 := rdI_back h
  have e3 := rdI_back e4
  have e2 := rdI_back e3
  have e1 := rdI_back e2
  refine e1.trans ?_
  simp only [bayB, numsB_cons, numsB_nil, List.append_assoc, List.append_nil]
theorem stepY_back (s : List BayIn × Left) (l' : List UInt8) (h : (stepY s).2 = some l') : ∃ x, (stepY s).1 = s.1 ++ [x] ∧ s.2 = some (bayB x ++ l') := by
  unfold stepY at h ⊢
  cases hs : s.2 with
  | none => rw [if_pos (by rw [hs]; rfl), hs] at h; cases h
  | some l =>
    rw [← hs]
    rw [if_neg (by rw [hs]; simp)] at h ⊢
    exact ⟨_, rfl, bayT_back _ _ h⟩
theorem takeT1_back (o : Left) (l' : List UInt8) (h : (takeT1 o).2.2 = some l') : o = some (numsB [(takeT1 o).1, ((takeT1 o).2.1.length : Int)] ++ ((takeT1 o).2.1.flatMap blueB ++ l')) := by
  obtain ⟨xs, x1, x2, x3⟩ := it_back stepB blueB stepB_back _ _ _ h
  simp only [List.nil_append] at x1
  have y2 := uint_back (most := 16) x3
  have y1 := rdI_back y2
  have hx : (takeT1 o).2.1 = xs := x1
  have hl : ((takeT1 o).2.1.length : Int) = (uintS 16 (rdI o).2).1 := by
    rw [hx, x2]
    exact Int.toNat_of_nonneg (uint_bounds 16 _ (by omega)).1
  rw [hl, hx]
  refine y1.trans ?_
  simp only [numsB_cons, numsB_nil, List.append_assoc, List.append_nil]
  rfl
theorem takeT2_back (o : Left) (l' : List UInt8) (h : (takeT2 o).2.2 = some l') : o = some (numsB [(takeT2 o).1, ((takeT2 o).2.1.length : Int)] ++ ((takeT2 o).2.1.flatMap bayB ++ l')) := by
  obtain ⟨xs, x1, x2, x3⟩ := it_back stepY bayB stepY_back _ _ _ h
  simp only [List.nil_append] at x1
  have y2 := uint_back (most := 8) x3
  have y1 := rdI_back y2
  have hx : (takeT2 o).2.1 = xs := x1
  have hl : ((takeT2 o).2.1.length : Int) = (uintS 8 (rdI o).2).1 := by
    rw [hx, x2]
    exact Int.toNat_of_nonneg (uint_bounds 8 _ (by omega)).1
  rw [hl, hx]
  refine y1.trans ?_
  simp only [numsB_cons, numsB_nil, List.append_assoc, List.append_nil]
  rfl
theorem takeT_back (o : Left) (l' : List UInt8) (h : (takeT o).2 = some l') : o = some (putB (takeT o).1 ++ l') := by
  unfold takeT at h ⊢
  simp only at h ⊢
  have e4 := rdI_back h
  have e3 := rdI_back e4
  have e2 := rdI_back e3
  have e1 := rdI_back e2
  have t2 := takeT2_back _ _ e1
  have t1 := takeT1_back _ _ t2
  refine t1.trans ?_
  unfold putB
  simp only [numsB_cons, numsB_nil, List.append_assoc, List.append_nil]
end Cat
end Go.Proofs.Ytfincohdchnniaa
namespace Go.Proofs.Ytfincohdchnniaa
open Go.RowKit
namespace Cat
open Rec (BlueIn Stk Stks Came bchk inB)
open Pen (bs bs_append uintB uintS uint_put uint_back uint_bounds doneS)
theorem getD_flat (l : List BlueIn) (i : Nat) : (l.map flatB).getD i nob = flatB (l.getD i nob) := by
  rw [List.getD_eq_getElem?_getD, List.getD_eq_getElem?_getD, List.getElem?_map]
  cases l[i]? <;> rfl
theorem needsOf_flat (l : List BlueIn) : needsOf (l.map flatB) = needsOf l := by
  unfold needsOf
  rw [List.flatMap_map]
  rfl
theorem okC_flat (c : CatIn) : okC (flatC c) = okC c := by
  have e1 : hasBad (c.blues.map flatB) c.types = hasBad c.blues c.types := by
    unfold hasBad
    rw [List.length_map]
    have : (fun i => decide (bchk ((c.blues.map flatB).getD i nob) c.types ≠ 0)) = fun i => decide (bchk (c.blues.getD i nob) c.types ≠ 0) := by
      funext i
      rw [getD_flat]
      rfl
    rw [this]
  show (inB (c.types, 1, 32) && (inB (c.places, 1, 8) && (inB (c.chars, 1, 16) && (decide ((c.blues.map flatB).length ≤ 16) && (decide (c.bays.length ≤ 8) && (!hasBad (c.blues.map flatB) c.types && (!hasBay c.bays c.places && Fee.okF c.fees))))))) = _
  rw [List.length_map, e1]
  rfl
theorem chkC_flat (c : CatIn) : chkC (flatC c) = chkC c := by
  unfold chkC
  rw [okC_flat]
  show (if okC c then (if (Gra.deepRes c.types (needsOf (c.blues.map flatB))).2 ≠ 0 then (Gra.deepRes c.types (needsOf (c.blues.map flatB))).2 else if over (Gra.deepRes c.types (needsOf (c.blues.map flatB))).1 then 5 else 0) else 1) = _
  rw [needsOf_flat]
theorem putB_flat (c : CatIn) : putB (flatC c) = putB c := by
  unfold putB flatC
  simp only [List.length_map, List.flatMap_map]
  rfl
theorem sameB_flat {a b : BlueIn} (h : flatB a = flatB b) : sameB a b = true := by
  have h1 := congrArg BlueIn.makes h
  have h2 := congrArg BlueIn.per h
  have h3 := congrArg BlueIn.time h
  have h4 := congrArg BlueIn.needs h
  have h5 := congrArg BlueIn.copy h
  have h6 := congrArg BlueIn.study h
  have h7 := congrArg BlueIn.most h
  simp only [flatB] at h1 h2 h3 h4 h5 h6 h7
  unfold sameB
  rw [h1, h2, h3, h4, h5, h6, h7]
  simp
theorem sameC_flat {c d : CatIn} (h : flatC c = flatC d) : sameC c d = true := by
  have h1 := congrArg CatIn.types h
  have h2 := congrArg CatIn.places h
  have h3 := congrArg CatIn.chars h
  have h4 := congrArg CatIn.broker h
  have h5 := congrArg CatIn.least h
  have h6 := congrArg CatIn.sales h
  have h7 := congrArg CatIn.blues h
  have h8 := congrArg CatIn.bays h
  simp only [flatC] at h1 h2 h3 h4 h5 h6 h7 h8
  have hl := congrArg List.length h7
  simp only [List.length_map] at hl
  have hf1 : fst (fun i => !sameB (c.blues.getD i nob) (d.blues.getD i nob)) c.blues.length = -1 := (fst_none _ _).2 fun k hk => by
    have : flatB (c.blues.getD k nob) = flatB (d.blues.getD k nob) := by rw [← getD_flat, ← getD_flat, h7]
    rw [sameB_flat this]; rfl
  have hf2 : fst (fun i => !eqY (c.bays.getD i noy) (d.bays.getD i noy)) c.bays.length = -1 := (fst_none _ _).2 fun k hk => by
    rw [h8]; unfold eqY; simp
  unfold sameC
  rw [hf1, hf2, h1, h2, h3, h4, h5, h6, hl, h8]
  simp
-- bounds
theorem in64_of {x : Int} (h : 0 ≤ x ∧ x ≤ 9223372036854775807) : In64 x := by
  have h1 : IntKind.i64.min = -9223372036854775808 := by decide
  unfold In64
  simp [Lit.wf]
  omega
theorem rdI_in (o : Left) : In64 (rdI o).1 := in64_of ⟨(uint_bounds _ o (by decide)).1, (uint_bounds _ o (by decide)).2.2⟩
theorem stepN_or (s : List Stk × Left) : stepN s = s ∨ ∃ x o, (In64 x.1 ∧ In64 x.2) ∧ stepN s = (s.1 ++ [x], o) := by
  unfold stepN
  split
  · exact .inl rfl
  · exact .inr ⟨_, _, ⟨rdI_in _, rdI_in _⟩, rfl⟩
theorem getD_mem {α : Type} (l : List α) (i : Nat) (d : α) (h : i < l.length) : l.getD i d ∈ l := by
  rw [List.getD_eq_getElem?_getD, List.getElem?_eq_getElem h]; exact List.getElem_mem h
theorem blueT_ok (o : Left) : BlueNums (blueT o).1 ∧ (blueT o).1.needs.length ≤ 8 := by
  obtain ⟨h1, h2⟩ := it_all stepN (fun x => In64 x.1 ∧ In64 x.2) stepN_or (blueT1 o).2.2.2.1.toNat ([], (blueT1 o).2.2.2.2) (fun x hx => by cases hx)
  have h3 := (uint_bounds 8 (rdI (rdI (rdI o).2).2).2 (by decide)).2.1
  refine ⟨⟨rdI_in _, rdI_in _, rdI_in _, rdI_in _, rdI_in _, rdI_in _, fun k hk => h1 _ (getD_mem _ _ _ hk)⟩, ?_⟩
  have h4 : ((blueT o).1.needs).length ≤ 0 + (blueT1 o).2.2.2.1.toNat := h2
  have h5 : (blueT1 o).2.2.2.1 ≤ 8 := h3
  omega
theorem stepB_or (s : List BlueIn × Left) : stepB s = s ∨ ∃ x o, (BlueNums x ∧ x.needs.length ≤ 8) ∧ stepB s = (s.1 ++ [x], o) := by
  unfold stepB
  split
  · exact .inl rfl
  · exact .inr ⟨_, _, blueT_ok _, rfl⟩
theorem stepY_or (s : List BayIn × Left) : stepY s = s ∨ ∃ x o, BayNums x ∧ stepY s = (s.1 ++ [x], o) := by
  unfold stepY
  split
  · exact .inl rfl
  · exact .inr ⟨_, _, ⟨rdI_in _, rdI_in _, rdI_in _, rdI_in _⟩, rfl⟩
theorem takeT_ok (o : Left) : Small (takeT o).1 ∧ Nums (takeT o).1 := by
  obtain ⟨h1, h2⟩ := it_all stepB (fun x => BlueNums x ∧ x.needs.length ≤ 8) stepB_or (uintS 16 (rdI o).2).1.toNat ([], (uintS 16 (rdI o).2).2) (fun x hx => by cases hx)
  obtain ⟨h3, h4⟩ := it_all stepY BayNums stepY_or (uintS 8 (rdI (takeT1 o).2.2).2).1.toNat ([], (uintS 8 (rdI (takeT1 o).2.2).2).2) (fun x hx => by cases hx)
  have h5 := (uint_bounds 16 (rdI o).2 (by decide)).2.1
  have h6 := (uint_bounds 8 (rdI (takeT1 o).2.2).2 (by decide)).2.1
  have h7 : (takeT o).1.blues.length ≤ 0 + (uintS 16 (rdI o).2).1.toNat := h2
  have h8 : (takeT o).1.bays.length ≤ 0 + (uintS 8 (rdI (takeT1 o).2.2).2).1.toNat := h4
  refine ⟨⟨by omega, by omega, fun i hi => Nat.le_trans (h1 _ (getD_mem _ _ _ hi)).2 (by decide)⟩, ⟨rdI_in _, rdI_in _, rdI_in _, rdI_in _, rdI_in _, rdI_in _, fun i hi => (h1 _ (getD_mem _ _ _ hi)).1, fun i hi => h3 _ (getD_mem _ _ _ hi)⟩⟩
theorem small_flat {c : CatIn} (h : Small (flatC c)) : Small c := by
  refine ⟨by have := h.1; simpa [flatC] using this, h.2.1, fun i hi => ?_⟩
  have := h.2.2 i (by simpa [flatC] using hi)
  rw [show (flatC c).blues = c.blues.map flatB from rfl, getD_flat] at this
  exact this
theorem nums_flat {c : CatIn} (h : Nums (flatC c)) : Nums c := by
  obtain ⟨h1, h2, h3, h4, h5, h6, h7, h8⟩ := h
  refine ⟨h1, h2, h3, h4, h5, h6, fun i hi => ?_, h8⟩
  have := h7 i (by simpa [flatC] using hi)
  rw [show (flatC c).blues = c.blues.map flatB from rfl, getD_flat] at this
  exact this
theorem noc_small : Small noc ∧ Nums noc := by
  refine ⟨⟨by decide, by decide, fun i hi => absurd hi (Nat.not_lt_zero _)⟩, ⟨?_, ?_, ?_, ?_, ?_, ?_, fun i hi => absurd hi (Nat.not_lt_zero _), fun i hi => absurd hi (Nat.not_lt_zero _)⟩⟩ <;> exact in64_of (by decide)
theorem takeV_ok (l : List UInt8) : Small (takeV l).1 ∧ Nums (takeV l).1 := by
  unfold takeV
  split
  · exact takeT_ok _
  · exact noc_small
-- what may be has numbers that may be put
theorem inB_ok {x a b : Int} (ha : 0 ≤ a) (hb : b ≤ 9223372036854775807) (h : inB (x, a, b) = true) : Ok x := by
  unfold inB at h
  simp only [Bool.and_eq_true, decide_eq_true_eq] at h
  exact ⟨by omega, by omega⟩
theorem goodTo_ok (l : List Stk) (types : Int) (ht : types ≤ 32) (k : Nat) (h : Rec.goodTo l types k = true) (i : Nat) (hi : i < k) : Ok (l.getD i (0, 0)).1 ∧ Ok (l.getD i (0, 0)).2 := by
  have hg : ∀ j, j < k → Rec.good l types j = true := by
    induction k with
    | zero => intro j hj; omega
    | succ k ih =>
      rw [Rec.goodTo, Bool.and_eq_true] at h
      intro j hj
      by_cases e : j = k
      · subst e; exact h.2
      · by_cases hi2 : i < k
        · exact ih h.1 hi2 j (by omega)
        · have : ∀ j, j < k → Rec.good l types j = true := by
            intro j hj
            cases hh : Rec.good l types j with
            | true => rfl
            | false => have := Rec.goodTo_no l types j k hh hj; rw [this] at h; cases h.1
          exact this j (by omega)
  have h1 := hg i hi
  have hlow : ∀ j, j ≤ i → 0 ≤ Rec.lastOf l j := by
    intro j
    induction j with
    | zero => intro _; exact Int.le_refl _
    | succ j ih =>
      intro hj
      have h2 := hg j (by omega)
      unfold Rec.good at h2
      simp only [Bool.and_eq_true, decide_eq_true_eq] at h2
      have := ih (by omega)
      show 0 ≤ (l.getD j (0, 0)).1
      omega
  unfold Rec.good at h1
  simp only [Bool.and_eq_true, decide_eq_true_eq] at h1
  have := hlow i (Nat.le_refl _)
  exact ⟨⟨by omega, by omega⟩, ⟨by omega, by omega⟩⟩
theorem bchk_ok {b : BlueIn} {types : Int} (ht : types ≤ 32) (h : bchk b types = 0) : OkB b := by
  unfold bchk at h
  split at h
  · rename_i h0
    simp only [Bool.and_eq_true, decide_eq_true_eq] at h0
    obtain ⟨hf, hc, _⟩ := h0
    have hfit : ∀ i, i < 7 → inB ((Rec.bnds b types).getD i (0, 0, 0)) = true := by
      intro i hi
      cases hh : inB ((Rec.bnds b types).getD i (0, 0, 0)) with
      | true => rfl
      | false => have := Rec.fitsTo_no _ i 7 hh hi; rw [this] at hf; cases hf
    unfold Rec.chk at hc
    split at hc
    · rename_i h1
      simp only [Bool.and_eq_true, decide_eq_true_eq] at h1
      refine ⟨inB_ok (by decide) (by omega) (hfit 1 (by decide)), inB_ok (by decide) (by decide) (hfit 2 (by decide)), inB_ok (by decide) (by decide) (hfit 3 (by decide)), h1.2, ?_, inB_ok (by decide) (by decide) (hfit 4 (by decide)), inB_ok (by decide) (by decide) (hfit 5 (by decide)), inB_ok (by decide) (by decide) (hfit 6 (by decide))⟩
      intro x hx
      obtain ⟨i, hi, rfl⟩ := List.getElem_of_mem hx
      have := goodTo_ok b.needs types ht _ h1.1 i hi
      rw [List.getD_eq_getElem?_getD, List.getElem?_eq_getElem hi] at this
      exact this
    · cases hc
  · cases h
theorem okC_ok {c : CatIn} (h : okC c = true) : OkC c := by
  unfold okC at h
  simp only [Bool.and_eq_true, decide_eq_true_eq, Bool.not_eq_true'] at h
  obtain ⟨h1, h2, h3, h4, h5, h6, h7, h8⟩ := h
  have ht : c.types ≤ 32 := by unfold inB at h1; simp only [Bool.and_eq_true, decide_eq_true_eq] at h1; exact h1.2
  have hp : c.places ≤ 8 := by unfold inB at h2; simp only [Bool.and_eq_true, decide_eq_true_eq] at h2; exact h2.2
  unfold hasBad at h6
  unfold hasBay at h7
  rw [decide_eq_false_iff_not] at h6 h7
  have l6 := fst_low (fun i => decide (bchk (c.blues.getD i nob) c.types ≠ 0)) c.blues.length
  have l7 := fst_low (fun i => !okY c.places (c.bays.getD i noy)) c.bays.length
  have e6 := (fst_none _ _).1 (show fst (fun i => decide (bchk (c.blues.getD i nob) c.types ≠ 0)) c.blues.length = -1 by omega)
  have e7 := (fst_none _ _).1 (show fst (fun i => !okY c.places (c.bays.getD i noy)) c.bays.length = -1 by omega)
  unfold Fee.okF Fee.inR CatIn.fees at h8
  simp only [Bool.and_eq_true, decide_eq_true_eq] at h8
  refine ⟨inB_ok (by decide) (by decide) h1, h4, ?_, inB_ok (by decide) (by decide) h2, h5, ?_, inB_ok (by decide) (by decide) h3, ⟨by omega, by omega⟩, ⟨by omega, by omega⟩, ⟨by omega, by omega⟩⟩
  · intro b hb
    obtain ⟨i, hi, rfl⟩ := List.getElem_of_mem hb
    have := e6 i hi
    simp only [List.getD_eq_getElem?_getD, List.getElem?_eq_getElem hi, Option.getD_some, decide_eq_false_iff_not, ne_eq, Classical.not_not] at this
    exact bchk_ok ht this
  · intro b hb
    obtain ⟨i, hi, rfl⟩ := List.getElem_of_mem hb
    have := e7 i hi
    simp only [List.getD_eq_getElem?_getD, List.getElem?_eq_getElem hi, Option.getD_some, Bool.not_eq_false'] at this
    unfold okY at this
    simp only [Bool.and_eq_true] at this
    exact ⟨inB_ok (by decide) (by omega) this.1, inB_ok (by decide) (by decide) this.2.1, inB_ok (by decide) (by decide) this.2.2.1, inB_ok (by decide) (by decide) this.2.2.2⟩
theorem chkC_ok {c : CatIn} (h : chkC c = 0) : OkC c := by
  unfold chkC at h
  split at h
  · rename_i h0; exact okC_ok h0
  · cases h
-- the law
/-- What is put is taken. -/
theorem take_put {c : CatIn} (h : chkC c = 0) : takeV (putB c) = (flatC c, 0) := by
  have ht := takeT_put c [] (chkC_ok h)
  rw [List.append_nil] at ht
  unfold takeV
  rw [ht]
  simp only [chkC_flat, h]
  rfl
/-- What is taken is put. -/
theorem put_take {l : List UInt8} (h : (takeV l).2 = 0) : chkC (takeV l).1 = 0 ∧ putB (takeV l).1 = l := by
  unfold takeV at h ⊢
  split at h
  · rename_i h0
    rw [if_pos h0]
    simp only [Bool.and_eq_true, decide_eq_true_eq] at h0
    refine ⟨h0.2, ?_⟩
    cases hs : (takeT (some l)).2 with
    | none => rw [hs] at h0; cases h0.1
    | some t =>
      have hd := h0.1
      rw [hs] at hd
      have ht : t = [] := List.isEmpty_iff.1 hd
      subst ht
      have := takeT_back (some l) [] hs
      rw [List.append_nil] at this
      exact (Option.some.inj this).symm
  · cases h
theorem takeV_two (l : List UInt8) : (takeV l).2 = 0 ∨ (takeV l).2 = 2 := by
  unfold takeV
  split
  · exact .inl rfl
  · exact .inr rfl
end Cat
end Go.Proofs.Ytfincohdchnniaa
namespace Go.Proofs.Ytfincohdchnniaa
open Go.RowKit
namespace Ord
section
variable {P : Program} {ops : Array Oper} {Q : Exit → Act → World → Prop} {md : Region.Mode} {S : World → Prop} {D : Nat → Bool}
/-- Whatever order is picked; S holds behind every operation that does not wait for a load. -/
def wpAnyU (P : Program) (md : Region.Mode) (ops : Array Oper) (Q : Exit → Act → World → Prop) (S : World → Prop) (D : Nat → Bool) : Nat → Array Bool → Act → World → Prop
  | 0, listed, a, w => Region.ready md ops listed = [] ∧ Q .normal a w
  | fuel + 1, listed, a, w =>
    (Region.ready md ops listed = [] → Q .normal a w) ∧
    ∀ i ∈ Region.ready md ops listed, wpOp P ops Q i (fun a' w' => (D i = false → S w') ∧ wpAnyU P md ops Q S D fuel (listed.setIfInBounds i true) a' w') a w
theorem wpAny_of_U : ∀ (fuel : Nat) (listed : Array Bool) (a : Act) (w : World), wpAnyU P md ops Q S D fuel listed a w → wpAny P md ops Q fuel listed a w
  | 0, _, _, _, h => h
  | fuel + 1, _, _, _, h => ⟨h.1, fun i hi => wpOp_mono (fun a' w' h' => wpAny_of_U fuel _ a' w' h'.2) (h.2 i hi)⟩
theorem off_of {listed : Array Bool} {k : Nat} (h : listed.getD k true = false) : listed.getD k false = false := by
  rcases Nat.lt_or_ge k listed.size with h' | h'
  · simp [h'] at h ⊢; exact h
  · simp [Array.getElem?_eq_none h'] at h
theorem wpAnyU_first {E : Nat → Bool} (hDE : ∀ j, D j = true → E j = true) {i : Nat} {oi : Oper} {v : Value} (hi : ops[i]? = some oi) (hsel : ∀ (j : Nat) (o : Oper) cs b, ops[j]? = some o → o.op ≠ .select cs b)
    (hQ : ∀ c a w, Q (.panic c) (a.put oi.dst v) w → Q (.panic c) a w) (hdep : ∀ j oj, ops[j]? = some oj → E j = true → ∃ e ∈ oj.after, Region.binds md e = true ∧ (e.on = i ∨ E e.on = true)) :
    ∀ (fuel : Nat) (listed : Array Bool) (a : Act) (w : World),
      (∀ j oj, ops[j]? = some oj → j ≠ i → listed.getD j true = false → (∀ e ∈ oj.after, Region.binds md e = true → e.on ≠ i) → oi.apart ops oj = true) →
      i ∈ Region.ready md ops listed → (∀ j, E j = true → listed.getD j true = false) → YieldsIf P ops S oi v a → S w →
      wpAnyU P md ops Q S D fuel (listed.setIfInBounds i true) (a.put oi.dst v) w → wpAnyU P md ops Q S D (fuel + 1) listed a w := by
  intro fuel
  induction fuel with
  | zero =>
    intro listed a w _ hr _ hy hS H
    refine ⟨fun h => (by rw [h] at hr; cases hr), fun j hj => ?_⟩
    by_cases hji : j = i
    · subst hji; exact hy.wpOp hi hS ⟨fun _ => hS, H⟩
    · have := ready_mono hj hji
      rw [H.1] at this
      cases this
  | succ fuel ih =>
    intro listed a w hfree hr hU hy hS H
    refine ⟨fun h => (by rw [h] at hr; cases hr), fun j hj => ?_⟩
    by_cases hji : j = i
    · subst hji; exact hy.wpOp hi hS ⟨fun _ => hS, H⟩
    · have h1 := H.2 j (ready_mono hj hji)
      obtain ⟨hjun, oj, hoj, hall⟩ := mem_ready.1 hj
      have hioff := off_of (mem_ready.1 hr).1
      have hnot : ∀ e ∈ oj.after, Region.binds md e = true → e.on ≠ i := fun e he hb heq => by
        have h1 := hall e he hb
        rw [heq, hioff] at h1
        cases h1
      have hEj : E j = false := by
        cases hd : E j with
        | false => rfl
        | true =>
          obtain ⟨e, he, hb, hor⟩ := hdep j oj hoj hd
          have h2 := hall e he hb
          rcases hor with h3 | h3
          · rw [h3, hioff] at h2; cases h2
          · rw [off_of (hU _ h3)] at h2; cases h2
      have hDj : D j = false := by
        cases hd : D j with
        | false => rfl
        | true => rw [hDE j hd] at hEj; cases hEj
      have h2 := wpOp_putIf hoj (hfree j oj hoj hji hjun hnot) (fun cs b => hsel i oi cs b hi) (fun cs b => hsel j oj cs b hoj) hQ hy h1
      have hfree' : ∀ k ok, ops[k]? = some ok → k ≠ i → (listed.setIfInBounds j true).getD k true = false →
          (∀ e ∈ ok.after, Region.binds md e = true → e.on ≠ i) → oi.apart ops ok = true := fun k ok hk hki hun hno => by
        refine hfree k ok hk hki ?_ hno
        by_cases hjk : j = k
        · subst hjk; exact hjun
        · rw [getD_set_ne true hjk] at hun; exact hun
      have hU' : ∀ k, E k = true → (listed.setIfInBounds j true).getD k true = false := fun k hk => by
        have hjk : j ≠ k := fun e => by rw [e, hk] at hEj; cases hEj
        rw [getD_set_ne true hjk]
        exact hU k hk
      refine wpOp_mono (fun a' w' h3 => ⟨fun _ => h3.2.1 hDj, ih (listed.setIfInBounds j true) a' w' hfree' (ready_mono hr (Ne.symm hji)) hU' h3.1 (h3.2.1 hDj) ?_⟩) h2
      rw [Array.setIfInBounds_comm _ _ hji]
      exact h3.2.2
/-- Whoever waits: each of them waits for i, or for another of them. -/
def waits (md : Region.Mode) (ops : Array Oper) (D : Nat → Bool) (i : Nat) : Bool :=
  (List.range ops.size).all fun j => !D j || match ops[j]? with
    | some oj => oj.after.any fun e => Region.binds md e && (e.on == i || D e.on)
    | none => true
theorem waits_spec {i : Nat} (h : waits md ops D i = true) (j : Nat) (oj : Oper) (hj : ops[j]? = some oj) (hd : D j = true) : ∃ e ∈ oj.after, Region.binds md e = true ∧ (e.on = i ∨ D e.on = true) := by
  simp only [waits, List.all_eq_true, List.mem_range] at h
  have h1 := h j (Array.getElem?_eq_some_iff.1 hj).1
  simp only [hj, hd, Bool.not_true, Bool.false_or] at h1
  obtain ⟨e, he, hb⟩ := Array.any_eq_true'.1 h1
  simp only [Bool.and_eq_true, Bool.or_eq_true, beq_iff_eq] at hb
  exact ⟨e, he, hb.1, hb.2⟩
/-- None of those who wait has come up. -/
def ahead (D : Nat → Bool) (n : Nat) (listed : Array Bool) : Bool := (List.range n).all fun j => !D j || !listed.getD j true
theorem ahead_spec {n : Nat} {listed : Array Bool} (hD : ∀ j, D j = true → j < n) (h : ahead D n listed = true) (j : Nat) (hd : D j = true) : listed.getD j true = false := by
  simp only [ahead, List.all_eq_true, List.mem_range] at h
  have h1 := h j (hD j hd)
  rw [hd] at h1
  simpa using h1
/-- Those of a list. -/
def among (l : List Nat) (j : Nat) : Bool := l.contains j
theorem among_lt {l : List Nat} {n : Nat} (h : l.all (fun j => decide (j < n)) = true) (j : Nat) (hj : among l j = true) : j < n := by
  simp only [List.all_eq_true, decide_eq_true_eq] at h
  exact h j (by simpa [among] using hj)
/-- Whoever waits for i, directly or by another. -/
def desc (md : Region.Mode) (ops : Array Oper) (i : Nat) : List Nat :=
  (List.range ops.size).foldl (fun acc j => if (match ops[j]? with | some oj => oj.after.any fun e => Region.binds md e && (e.on == i || acc.contains e.on) | none => false) then acc ++ [j] else acc) []
theorem wpAnyU_take {l : List Nat} {i : Nat} {oi : Oper} {v : Value} {fuel : Nat} {listed : Array Bool} {a : Act} {w : World} (hi : ops[i]? = some oi)
    (hs : Region.noSelect ops = true) (hf : Region.free md ops listed i = true) (hr : (Region.ready md ops listed).contains i = true)
    (hd : l.all (fun j => (desc md ops i).contains j) = true) (hw : waits md ops (among (desc md ops i)) i = true) (hl : (desc md ops i).all (fun j => decide (j < listed.size)) = true) (ha : ahead (among (desc md ops i)) listed.size listed = true)
    (hQ : ∀ c a w, Q (.panic c) (a.put oi.dst v) w → Q (.panic c) a w) (hy : YieldsIf P ops S oi v a) (hS : S w)
    (h : wpAnyU P md ops Q S (among l) fuel (listed.setIfInBounds i true) (a.put oi.dst v) w) : wpAnyU P md ops Q S (among l) (fuel + 1) listed a w :=
  wpAnyU_first (E := among (desc md ops i)) (fun j hj => by
    simp only [List.all_eq_true] at hd
    exact hd j (by simpa [among] using hj)) hi (Region.noSelect_spec hs) hQ (waits_spec hw) fuel listed a w (Region.free_spec hi hf) (by simpa using hr) (ahead_spec (among_lt hl) ha) hy hS h
/-- What yields in whatever world, however late it stands: an operation that is not waited for by those of the list may be taken when nobody else can come up. -/
theorem wpAnyU_one {i : Nat} {o : Oper} {fuel : Nat} {listed : Array Bool} {a : Act} {w : World} (hr : Region.ready md ops listed = [i]) (ho : ops[i]? = some o)
    (h : ∀ K' : Act → World → Prop, Shut (∀ a w, (D i = false → S w) → wpAnyU P md ops Q S D fuel (listed.setIfInBounds i true) a w → K' a w) → if Region.wanted o (yielded ops a.tmps) = true then Oper.wp P o a w K' Q else K' (a.put o.dst undef) w) :
    wpAnyU P md ops Q S D (fuel + 1) listed a w := by
  refine ⟨fun h0 => absurd (hr ▸ h0) (by simp), fun j hj => ?_⟩
  rw [hr] at hj
  rw [List.mem_singleton.1 hj]
  exact wpOp_step ho fun K' hK => h K' fun a w hS hW => hK a w ⟨hS, hW⟩
theorem wpAnyU_done {listed : Array Bool} {a : Act} {w : World} (hr : Region.ready md ops listed = []) (h : Q .normal a w) : ∀ fuel, wpAnyU P md ops Q S D fuel listed a w
  | 0 => ⟨hr, h⟩
  | _ + 1 => ⟨fun _ => h, by rw [hr]; simp⟩
theorem wp_region_U {id : Nat} {a : Act} {w : World} (S : World → Prop) (l : List Nat) (hm : P.follows .mixedOrders = true)
    (h : wpAnyU P .any ops Q S (among l) ops.size (Array.replicate ops.size false) a w.drew) : (Code.region id ops true).wp P Q a w :=
  wp_region_any hm (wpAny_of_U _ _ _ _ h)
end
end Ord
end Go.Proofs.Ytfincohdchnniaa
namespace Go.Proofs.Ytfincohdchnniaa
open Go.RowKit
namespace Cat
open Rec (BlueIn Stk Stks Came bchk inB stkVals stks_of_own)
open Pen (bs bs_append uintB uintS doneS below2 below_al below_dN)
/-- All blocks ahead of the n-th, but some, are as they were. -/
structure Bx (n : Nat) (E : Nat → Prop) (a b : World) : Prop where
  os : b.os = a.os
  tape : b.tape = a.tape
  output : b.output = a.output
  size : a.heap.size ≤ b.heap.size
  block : ∀ k, k < n → ¬ E k → b.heap[k]? = a.heap[k]?
section
variable {n : Nat} {E : Nat → Prop} {a b c : World}
theorem Bx.refl (n : Nat) (E : Nat → Prop) (a : World) : Bx n E a a := ⟨rfl, rfl, rfl, Nat.le_refl _, fun _ _ _ => rfl⟩
theorem Bx.mono {m : Nat} {F : Nat → Prop} (h : Bx n E a b) (hm : m ≤ n) (hE : ∀ k, k < m → E k → F k) : Bx m F a b := ⟨h.os, h.tape, h.output, h.size, fun k hk hg => h.block k (Nat.lt_of_lt_of_le hk hm) fun e => hg (hE k hk e)⟩
theorem Bx.trans (h : Bx n E a b) (h2 : Bx n E b c) : Bx n E a c :=
  ⟨h2.os.trans h.os, h2.tape.trans h.tape, h2.output.trans h.output, Nat.le_trans h.size h2.size, fun k hk hg => (h2.block k hk hg).trans (h.block k hk hg)⟩
theorem Bx.grown {o : Option Nat} (h : Bx n E a b) (h2 : b.grownBy c o) (hn : n ≤ b.heap.size) (ho : ∀ k, o = some k → n ≤ k ∨ E k) : Bx n E a c :=
  ⟨h2.os.trans h.os, h2.tape.trans h.tape, h2.output.trans h.output, Nat.le_trans h.size h2.size, fun k hk hg => (h2.block k (Nat.lt_of_lt_of_le hk hn) (fun e => by
    rcases ho k e.symm with h3 | h3
    · omega
    · exact hg h3)).trans (h.block k hk hg)⟩
theorem Bx.alloc (h : Bx n E a b) (hn : n ≤ b.heap.size) (o : Obj) : Bx n E a (b.alloc o) := h.grown (World.grownBy_alloc b o none) hn fun k hk => by cases hk
theorem Bx.below (h : Bx n E a b) (hn : n ≤ b.heap.size) (h2 : Below b.heap.size b c) : Bx n E a c :=
  ⟨h2.os.trans h.os, h2.tape.trans h.tape, h2.output.trans h.output, Nat.le_trans h.size h2.size, fun k hk hg => (h2.block k (Nat.lt_of_lt_of_le hk hn)).trans (h.block k hk hg)⟩
theorem Bx.set (h : Bx n E a b) (x : Addr) (u : Value) (hx : n ≤ x.block ∨ E x.block) : Bx n E a (b.setCell x u) :=
  ⟨h.os, h.tape, h.output, by simpa using h.size, fun k hk hg => (Below.heap_setCell _ _ _ _ (fun e => by
    rcases hx with h3 | h3
    · omega
    · exact hg (e ▸ h3))).trans (h.block k hk hg)⟩
theorem Bx.dN (h : Bx n E a b) (q : Nat) : Bx n E a (b.drewN q) := ⟨h.os, h.tape, h.output, h.size, h.block⟩
theorem Bx.drew (h : Bx n E a b) : Bx n E a b.drew := ⟨h.os, h.tape, h.output, h.size, h.block⟩
theorem Bx.keep (h : Bx n E a b) {k i : Nat} (hk : k < n) (hg : ¬ E k) {v : Value} (hc : a.cell? ⟨k, i, none⟩ = some v) : b.cell? ⟨k, i, none⟩ = some v := by
  unfold World.cell? at hc ⊢
  rw [h.block k hk hg]
  exact hc
theorem Bx.toGrown {g : Nat} (h : Bx a.heap.size (· = g) a b) : a.grownBy b (some g) := ⟨h.os, h.tape, h.output, h.size, fun k hk hne => h.block k hk fun e => hne (by rw [e])⟩
theorem Bx.toBelow (h : Bx a.heap.size E a b) (hg : ∀ k, E k → a.heap.size ≤ k) : Below a.heap.size a b :=
  ⟨h.os, h.tape, h.output, h.size, fun k hk => h.block k hk fun e => by have := hg k e; omega⟩
end
/-- A reader of either side at a block. -/
def Rd (T : TypeId) (Q : (Nat → Value) → Left → Prop) (w : World) (g : Nat) (o : Left) : Prop := ∃ f, w.rowIs g T 3 f ∧ Q f o
section
variable {T : TypeId} {Q : (Nat → Value) → Left → Prop} {w w' : World} {g : Nat} {o : Left}
theorem Rd.of_block (h : Rd T Q w g o) (e : w'.heap[g]? = w.heap[g]?) : Rd T Q w' g o := by
  obtain ⟨f, h1, h2⟩ := h
  exact ⟨f, h1.of_block e, h2⟩
theorem Rd.lt (h : Rd T Q w g o) : g < w.heap.size := by
  obtain ⟨f, h1, h2⟩ := h
  exact h1.lt
theorem Rd.grown (h : Rd T Q w g o) {r : Option Nat} (hg : w.grownBy w' r) (hr : r ≠ some g) : Rd T Q w' g o := h.of_block (hg.block g h.lt fun e => hr e.symm)
theorem Rd.below (h : Rd T Q w g o) (hb : Below w.heap.size w w') : Rd T Q w' g o := h.of_block (hb.block g h.lt)
theorem Rd.alloc (h : Rd T Q w g o) (x : Obj) : Rd T Q (w.alloc x) g o := h.of_block (heap_alloc_old w x h.lt)
theorem Rd.set (h : Rd T Q w g o) {a : Addr} (ha : a.block ≠ g) (u : Value) : Rd T Q (w.setCell a u) g o := h.of_block (Below.heap_setCell _ _ _ _ (fun e => ha e.symm))
theorem Rd.drew (h : Rd T Q w g o) : Rd T Q w.drew g o := h
theorem Rd.dN (h : Rd T Q w g o) (q : Nat) : Rd T Q (w.drewN q) g o := h
end
/-- What a call of a reader leaves behind. -/
def Rs (T : TypeId) (Q : (Nat → Value) → Left → Prop) (w : World) (g : Nat) (r : Int × Left) (e : Ending) (w' : World) : Prop := e = .returned (.int .i64 r.1) ∧ Hid (Rd T Q w' g r.2) ∧ Hid (w.grownBy w' (some g))
def QP (f : Nat → Value) (o : Left) : Prop := ∃ rest bad, f = Pen.rc rest bad ∧ Pen.st rest bad = o ∧ rest.size ≤ 1000000000
def QR (f : Nat → Value) (o : Left) : Prop := ∃ S p bad, f = Pen.rrc S p bad ∧ Pen.st2 S p bad = o ∧ p ≤ S.size ∧ S.size ≤ 1000000000
theorem pUint_any (g : Nat) (o : Left) (most : Int) (w : World) (h : Rd 86 QP w g o) :
    Calls Try.prog 51 #[.pointer (some ⟨g, 0, none⟩), .int .i64 most] w (Rs 86 QP w g (uintS most o)) := by
  obtain ⟨f, h1, rest, bad, rfl, rfl, hs⟩ := h
  refine (Pen.rUint_any g rest bad most hs w h1).mono ?_
  rintro e w' ⟨rest', bad', rfl, H1, H2, H3⟩
  exact ⟨rfl, ⟨_, H2.out, rest', bad', rfl, H1.out.1, Nat.le_trans H1.out.2 hs⟩, H3⟩
theorem pBad_any (g : Nat) (o : Left) (w : World) (h : Rd 86 QP w g o) :
    Calls Try.prog 52 #[.pointer (some ⟨g, 0, none⟩)] w fun e w' => e = .returned (.bool o.isNone) ∧ w = w' := by
  obtain ⟨f, h1, rest, bad, rfl, rfl, hs⟩ := h
  have := Pen.bad_any g rest bad w h1
  cases bad <;> exact this
theorem pDone_any (g : Nat) (o : Left) (w : World) (h : Rd 86 QP w g o) :
    Calls Try.prog 34 #[.pointer (some ⟨g, 0, none⟩)] w fun e w' => e = .returned (.bool (doneS o)) ∧ w = w' := by
  obtain ⟨f, h1, rest, bad, rfl, rfl, hs⟩ := h
  exact Pen.done_any g rest bad w h1
theorem pNew_any (s : ByteArray) (hs : s.size ≤ 1000000000) (w : World) :
    Calls Try.prog 28 #[.string s] w fun e w' => e = .returned (.pointer (some ⟨w.heap.size, 0, none⟩)) ∧ Hid (Rd 86 QP w' w.heap.size (some s.data.toList)) ∧ Hid (Below w.heap.size w w') := by
  refine (Pen.new_any s w).mono ?_
  rintro e w' ⟨rfl, h1, h2⟩
  exact ⟨rfl, ⟨_, h1, s, false, rfl, rfl, hs⟩, h2⟩
theorem rrU_any (g : Nat) (o : Left) (most : Int) (w : World) (h : Rd 70 QR w g o) :
    Calls Try.prog 35 #[.pointer (some ⟨g, 0, none⟩), .int .i64 most] w (Rs 70 QR w g (uintS most o)) := by
  obtain ⟨f, h1, S, p, bad, rfl, rfl, hp, hs⟩ := h
  refine (Pen.rrUint_any g S p bad most hp hs w h1).mono ?_
  rintro e w' ⟨p', bad', rfl, H1, H2, H3⟩
  exact ⟨rfl, ⟨_, H2.out, S, p', bad', rfl, H1.out.1, H1.out.2, hs⟩, H3⟩
theorem rrD_any (g : Nat) (o : Left) (w : World) (h : Rd 70 QR w g o) :
    Calls Try.prog 36 #[.pointer (some ⟨g, 0, none⟩)] w fun e w' => e = .returned (.bool (doneS o)) ∧ Below w.heap.size w w' := by
  obtain ⟨f, h1, S, p, bad, rfl, rfl, hp, hs⟩ := h
  exact Pen.rrDone_any g S p bad hp w h1
theorem rrNew (s : ByteArray) (hs : s.size ≤ 1000000000) (w : World) : Rd 70 QR (w.alloc (.cells #[.string s, .int .i64 0, .bool false] 70)) w.heap.size (some s.data.toList) :=
  ⟨Pen.rrc s 0 false, ⟨_, heap_alloc_new w _, rfl, fun i hi => by
    match i, hi with
    | 0, _ => rfl
    | 1, _ => rfl
    | 2, _ => rfl⟩, s, 0, false, rfl, rfl, Nat.zero_le _, hs⟩
theorem rrBad {w : World} {g : Nat} {o : Left} (h : Rd 70 QR w g o) : w.cell? ⟨g, 2, none⟩ = some (.bool o.isNone) := by
  obtain ⟨f, h1, S, p, bad, rfl, rfl, hp, hs⟩ := h
  have := h1.cell (i := 2) (by decide)
  rw [this]
  cases bad <;> rfl
-- rows of blueprints and of bays
theorem flat_get {α : Type} (f : α → List Value) (k : Nat) (hf : ∀ a, (f a).length = k) (l : List α) (d : α) (i j : Nat) (hi : i < l.length) (hj : j < k) : (l.flatMap f)[i * k + j]? = (f (l.getD i d))[j]? := by
  induction l generalizing i with
  | nil => simp at hi
  | cons a l ih =>
    cases i with
    | zero =>
      rw [List.flatMap_cons, Nat.zero_mul, Nat.zero_add, List.getElem?_append_left (by rw [hf]; exact hj)]
      rfl
    | succ i =>
      have h2 := ih i (by simpa using hi)
      rw [List.flatMap_cons, List.getElem?_append_right (by rw [hf, Nat.succ_mul]; omega), hf]
      have e : (i + 1) * k + j - k = i * k + j := by rw [Nat.succ_mul]; omega
      rw [e, h2]
      rfl
theorem flat_size {α : Type} (f : α → List Value) (k : Nat) (hf : ∀ a, (f a).length = k) (l : List α) : (l.flatMap f).length = l.length * k := by
  induction l with
  | nil => simp
  | cons a l ih => rw [List.flatMap_cons, List.length_append, hf, ih, List.length_cons, Nat.succ_mul, Nat.add_comm]
theorem own_cell {w : World} {base : Nat} {T : TypeId} {k n g cap : Nat} {xs : List Value} (h : w.ownsRow base T k (.slice (some ⟨g, 0, none⟩) n cap) n xs) (j : Nat) (u : Value) (hu : xs[j]? = some u) : w.cell? ⟨g, 0 + j, none⟩ = some u := by
  have := h.cells rfl j u hu
  have hadd : (⟨g, 0, none⟩ : Addr).add j = ⟨g, 0 + j, none⟩ := by unfold Addr.add; split <;> simp_all
  rwa [hadd] at this
def blueVals (l : List BlueIn) : List Value := l.flatMap fun b => b.val.toList
def bayVals (l : List BayIn) : List Value := l.flatMap fun b => b.val.toList
theorem blueVals_get (l : List BlueIn) (i j : Nat) (hi : i < l.length) (hj : j < 7) : (blueVals l)[i * 7 + j]? = (l.getD i nob).val.toList[j]? := flat_get _ 7 (fun _ => rfl) l nob i j hi hj
theorem bayVals_get (l : List BayIn) (i j : Nat) (hi : i < l.length) (hj : j < 4) : (bayVals l)[i * 4 + j]? = (l.getD i noy).val.toList[j]? := flat_get _ 4 (fun _ => rfl) l noy i j hi hj
theorem blues_of_own {w : World} {base : Nat} {T : TypeId} {v : Value} {l : List BlueIn} (h : w.ownsRow base T 7 v l.length (blueVals l)) : ∃ a cap, v = .slice a l.length cap ∧ Blues w a l := by
  rcases h.2 with ⟨rfl, h0⟩ | ⟨g, cap, cur, rfl, _, hg, _⟩
  · exact ⟨none, 0, by rw [h0], fun i hi => by omega⟩
  · refine ⟨some ⟨g, 0, none⟩, cap, rfl, fun i hi => ⟨g, 0, rfl, (Array.getElem?_eq_some_iff.1 hg).1, ?_⟩⟩
    have key : ∀ j u, j < 7 → (l.getD i nob).val.toList[j]? = some u → w.cell? ⟨g, 0 + (i * 7 + j), none⟩ = some u := fun j u hj hu => own_cell h _ _ ((blueVals_get l i j hi hj).trans hu)
    refine ⟨key 0 _ (by decide) rfl, ?_, ?_, ?_, ?_, ?_, ?_⟩
    · rw [Nat.add_assoc]; exact key 1 _ (by decide) rfl
    · rw [Nat.add_assoc]; exact key 2 _ (by decide) rfl
    · rw [Nat.add_assoc]; exact key 3 _ (by decide) rfl
    · rw [Nat.add_assoc]; exact key 4 _ (by decide) rfl
    · rw [Nat.add_assoc]; exact key 5 _ (by decide) rfl
    · rw [Nat.add_assoc]; exact key 6 _ (by decide) rfl
theorem bays_of_own {w : World} {base : Nat} {T : TypeId} {v : Value} {l : List BayIn} (h : w.ownsRow base T 4 v l.length (bayVals l)) : ∃ a cap, v = .slice a l.length cap ∧ Bays w a l := by
  rcases h.2 with ⟨rfl, h0⟩ | ⟨g, cap, cur, rfl, _, hg, _⟩
  · exact ⟨none, 0, by rw [h0], fun i hi => by omega⟩
  · refine ⟨some ⟨g, 0, none⟩, cap, rfl, fun i hi => ⟨g, 0, rfl, (Array.getElem?_eq_some_iff.1 hg).1, ?_⟩⟩
    have key : ∀ j u, j < 4 → (l.getD i noy).val.toList[j]? = some u → w.cell? ⟨g, 0 + (i * 4 + j), none⟩ = some u := fun j u hj hu => own_cell h _ _ ((bayVals_get l i j hi hj).trans hu)
    refine ⟨key 0 _ (by decide) rfl, ?_, ?_, ?_⟩
    · rw [Nat.add_assoc]; exact key 1 _ (by decide) rfl
    · rw [Nat.add_assoc]; exact key 2 _ (by decide) rfl
    · rw [Nat.add_assoc]; exact key 3 _ (by decide) rfl
theorem blueVals_snoc (l : List BlueIn) (b : BlueIn) : blueVals (l ++ [b]) = blueVals l ++ b.val.toList := by simp [blueVals]
theorem bayVals_snoc (l : List BayIn) (b : BayIn) : bayVals (l ++ [b]) = bayVals l ++ b.val.toList := by simp [bayVals]
/-- Needs that are read: the reader, the blueprint's cells, and the row of its needs. -/
structure NI (T : TypeId) (Q : (Nat → Value) → Left → Prop) (W : World) (g gb base : Nat) (f : Nat → Value) (s : List Stk × Left) (w : World) : Prop where
  rd : Rd T Q w g s.2
  row : ∃ v, w.rowIs gb 41 7 (fun i => if i = 3 then v else f i) ∧ w.ownsRow base 38 2 v s.1.length (stkVals s.1)
  fr : Bx base (fun k => k = g ∨ k = gb) W w
  le : base ≤ w.heap.size
/-- Where a row of one's own lies behind a growing. -/
theorem kept_of {w w' : World} {base : Nat} {e : TypeId} {size n : Nat} {v : Value} {xs : List Value} {g : Nat} (h : w.ownsRow base e size v n xs) (hg : w.grownBy w' (some g)) (hb : g < base) : w'.ownsRow base e size v n xs :=
  h.kept hg (.inr fun e => by have := (h.lt _ e).1; omega)
theorem row_grown {w w' : World} {b n : Nat} {t : TypeId} {f : Nat → Value} {o : Option Nat} (h : w.rowIs b t n f) (hg : w.grownBy w' o) (hne : o ≠ some b) : w'.rowIs b t n f := h.of_block (hg.block b h.lt fun e => hne e.symm)
theorem grw_al {w w' : World} {o : Option Nat} (x : Obj) (h : (w.alloc x).grownBy w' o) : w.grownBy w' o :=
  ⟨h.os, h.tape, h.output, Nat.le_trans (by simp) h.size, fun k hk hne => (h.block k (by simp; omega) hne).trans (heap_alloc_old w x hk)⟩
end Cat
end Go.Proofs.Ytfincohdchnniaa
namespace Go.Proofs.Ytfincohdchnniaa
open Go.RowKit
namespace Cat
open Rec (BlueIn Stk Stks Came bchk inB stkVals stks_of_own stkVals_append)
open Pen (bs bs_append uintB uintS doneS below2 below_al below_dN)
set_option maxRecDepth 100000 in
theorem num_any (g : Nat) (o : Left) (w : World) (h : Rd 86 QP w g o) :
    Calls Try.prog 29 #[.agg #[.pointer (some ⟨g, 0, none⟩)]] w (Rs 86 QP w g (rdI o)) := by
  have CU : Hid (∀ W, Rd 86 QP W g o → Calls Try.prog 51 #[.pointer (some ⟨g, 0, none⟩), .int .i64 9223372036854775807] W (Rs 86 QP W g (rdI o))) := fun W h => pUint_any g o _ W h
  have HX := Lib.hid (h.alloc (.cells #[.pointer (some ⟨g, 0, none⟩)] 64))
  clear h
  unfold Rs at *
  go_enter Try.func29, Try.ntmps29
  go_wp2_with (go_at_call 51; (with_reducible refine (CU.out _ HX.out).mono ?_); rintro e w1 ⟨rfl, HR, HG⟩)
  go_ret
  exact ⟨rfl, HR, grw_al _ HG.out⟩
/-- What is there behind one need more. -/
theorem need_end {T : TypeId} {Q : (Nat → Value) → Left → Prop} {W w w1 w2 w3 : World} {g gx gb base : Nat} {f : Nat → Value} {l : List Stk} {x : Stk} {o : Left} {v v' : Value} (HF : Bx base (fun k => k = g ∨ k = gb) W w) (hle : base ≤ w.heap.size) (hbl : g < base ∧ gx < base ∧ gb < base) (G1 : w.grownBy w1 (some g)) (G2 : w1.grownBy w2 (some g)) (HR : Rd T Q w2 g o) (HV : w2.ownsRow base 38 2 v l.length (stkVals l)) (G3 : w2.grownBy w3 v.ownBlock)
    (HW : w3.rowIs gb 41 7 (fun i => if i = 3 then v else f i)) (HO : w3.ownsRow base 38 2 v' (l.length + 1) (stkVals l ++ [.int .i64 x.1, .int .i64 x.2])) (hgb : g ≠ gb) : NI T Q W g gb base f (l ++ [x], o) (w3.setCell ⟨gb, 3, none⟩ v') := by
  have hs1 := G1.size
  have hs2 := G2.size
  have hs3 := G3.size
  have hvn : ∀ k, v.ownBlock = some k → base ≤ k := fun k e => (HV.lt k e).1
  refine ⟨?_, ⟨v', ?_, ?_⟩, ?_, ?_⟩
  · exact (HR.grown G3 fun e => by have := hvn _ e; omega).set (fun e => hgb e.symm) _
  · exact (HW.set 3 v').congr fun i hi => by by_cases e : i = 3 <;> simp [e]
  · rw [List.length_append, stkVals_append]
    exact ownsRow_setCell_below HO hbl.2.2 v'
  · refine ((((HF.grown G1 hle fun k e => .inr (.inl (by cases e; rfl))).grown G2 (by omega) fun k e => .inr (.inl (by cases e; rfl))).grown G3 (by omega) fun k e => .inl (hvn k e))).set _ _ (.inr (.inr rfl))
  · simp; omega
theorem stkinfo : (Try.prog.info? 38).map (fun i => (i.zero, i.size, i.bytes)) = some (some (.agg #[.int .i64 0, .int .i64 0]), 2, 16) := by kernel_rfl
set_option maxRecDepth 100000 in
set_option maxHeartbeats 4000000 in
theorem need_any (W : World) (g gx gb base : Nat) (f : Nat → Value) (s : List Stk × Left) (w : World) (h : NI 86 QP W g gb base f s w) (hx : W.cell? ⟨gx, 0, none⟩ = some (.pointer (some ⟨g, 0, none⟩))) (hgx : g ≠ gx) (hgb : g ≠ gb) (hxb : gx ≠ gb) (hbl : g < base ∧ gx < base ∧ gb < base) (hl : s.1.length ≤ 100) (hs : s.2.isNone = false) :
    Calls Try.prog 53 #[.pointer (some ⟨gb, 0, none⟩), .pointer (some ⟨gx, 0, none⟩)] w fun e w' => e = .returned (.tuple #[]) ∧ Hid (NI 86 QP W g gb base f (stepN s) w') := by
  have CN : Hid (∀ W o, Rd 86 QP W g o → Calls Try.prog 29 #[.agg #[.pointer (some ⟨g, 0, none⟩)]] W (Rs 86 QP W g (rdI o))) := fun W o h => num_any g o W h
  obtain ⟨l, o⟩ := s
  have HS : Hid (stepN (l, o) = (l ++ [((rdI o).1, (rdI (rdI o).2).1)], (rdI (rdI o).2).2)) := by show _ = _; unfold stepN; rw [if_neg (by rw [hs]; simp)]
  rw [HS.out]
  obtain ⟨r1, h1⟩ : ∃ r, Hid (rdI o = r) := ⟨_, rfl⟩
  obtain ⟨r2, h2⟩ : ∃ r, Hid (rdI r1.2 = r) := ⟨_, rfl⟩
  rw [h1.out, h2.out]
  obtain ⟨i0, hi, hz0, hz1, hz2⟩ := info_parts stkinfo
  have HR := Lib.hid h.rd
  obtain ⟨v, hrow, hv⟩ := h.row
  have HV := Lib.hid hv
  have HW := Lib.hid hrow
  have HF := Lib.hid h.fr
  have HLE := Lib.hid h.le
  have cx := HF.out.keep hbl.2.1 (fun e => by rcases e with e | e; exact hgx e.symm; exact hxb e) hx
  have cb := hrow.cell (i := 3) (by decide)
  have fb := hrow.frozen 3
  simp only [if_true] at cb
  unfold Rs at *
  have hgl : gx < w.heap.size ∧ gb < w.heap.size := by have := HLE.out; omega
  clear h hv hrow hx hs HS
  go_enter Try.func53, Try.ntmps53
  go_wp2
  go_region_law (first
    | (go_simp; go_at_call 29; (with_reducible refine (CN.out _ _ (Rd.drew HR.out)).mono ?_); rintro e w1 ⟨rfl, HR1, HG1⟩; rw [h1.out] at HR1 ⊢; have hsz1 : w.heap.size ≤ w1.heap.size := HG1.out.size; have cx1 := cell_grown HG1.out hgl.1 (fun e => hgx (Option.some.inj e)) cx; have cb1 := cell_grown HG1.out hgl.2 (fun e => hgb (Option.some.inj e)) cb; have HW1 := Lib.hid (row_grown (World.rowIs.drew HW.out) HG1.out (fun e => hgb (Option.some.inj e))); have HV1 := Lib.hid (kept_of (Own.ownsRow_drew HV.out) HG1.out hbl.1))
    | (go_simp; go_at_call 29; (with_reducible refine (CN.out _ _ HR1.out).mono ?_); rintro e w2 ⟨rfl, HR2, HG2⟩; rw [h2.out] at HR2 ⊢; have cb2 := cell_grown HG2.out (Nat.lt_of_lt_of_le hgl.2 HG1.out.size) (fun e => hgb (Option.some.inj e)) cb1; have HW2 := Lib.hid (row_grown HW1.out HG2.out (fun e => hgb (Option.some.inj e))); have HV2 := Lib.hid (kept_of HV1.out HG2.out hbl.1); have hvb : v.ownBlock ≠ some gb := (fun e => by have := (HV2.out.lt _ e).1; omega); have hyl2 : gb < w2.heap.size := Nat.lt_of_lt_of_le (Nat.lt_of_lt_of_le hgl.2 HG1.out.size) HG2.out.size)
    | (refine step_append_lies _ (by rfl) _ _ _ (by rfl) base 38 i0 _ 2 16 Try.underlying39 hi hz0 hz1 hz2 rfl (by omega) v l.length _ (by simp [Act.eval]) (HV2.out.alloc _) ⟨w2.heap.size, 0, none⟩ 1 1 [.int .i64 r1.1, .int .i64 r2.1] (by simp [Act.eval]) (by rfl) (World.news_of_block (cs := #[.int .i64 r1.1, .int .i64 r2.1]) (t := 38) (fr := (0, 0)) (heap_alloc_new w2 _)) (by simp [Value.oneCell']) (by omega) (by unfold maxLen; omega) (by omega) (by simp; have := HLE.out; have := hsz1; have := HG2.out.size; omega) (w2.heap.size + 1) (by simp) ?_; intro gg cap9 w3 hown hgr hat hlt; have HO3 := Lib.hid hown; have HG3 := Lib.hid (grw_al _ hgr); have cb3 := cell_grown HG3.out hyl2 hvb cb2; have fb3 := row_grown HW2.out HG3.out hvb; have fb4 := fb3.frozen 3; have HW3 := Lib.hid fb3; clear hown hgr hat hlt fb3))
  all_goals go_end0
  all_goals exact ⟨rfl, need_end (w := w.drew) HF.out.drew HLE.out hbl HG1.out HG2.out HR2.out HV2.out HG3.out HW3.out HO3.out hgb⟩
end Cat
end Go.Proofs.Ytfincohdchnniaa
