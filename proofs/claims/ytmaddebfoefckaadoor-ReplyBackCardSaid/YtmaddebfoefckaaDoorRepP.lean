/- Replies as bytes, and as words: in plain words. -/
import Derived.Test.YtmaddebfoefckaaDoorPenL
import Derived.Test.YtmaddebfoefckaaDoorPenI
import Derived.Lib.ItoaNum
import Derived.Lib.ItoaLen
set_option linter.unusedSimpArgs false
set_option linter.unusedVariables false
namespace Go.Proofs.YtmaddebfoefckaaDoor
open Go.RowKit
namespace Rep
open Pen (bs bs_append uintB intB I64 intS uintS doneS int_put int_back int_in uint_put uint_back)
/-- A reply that came in. -/
structure RepIn where
  err : Int
  id : Int
  n : Int
  st : Int
  ti : Int
deriving DecidableEq
def RepIn.val (r : RepIn) : Array Value := #[.int .i64 r.err, .int .i64 r.id, .int .i64 r.n, .int .i64 r.st, .int .i64 r.ti]
/-- The reply that an error is. -/
def ofE (e : Int) : RepIn := ⟨e, 0, 0, 0, 0⟩
/-- A reply that may be. -/
def May (r : RepIn) : Prop := 0 ≤ r.err ∧ r.err ≤ 14 ∧ (r.err = 0 ∨ r = ofE r.err)
instance (r : RepIn) : Decidable (May r) := by unfold May; infer_instance
/-- Its numbers may be. -/
def Rok (r : RepIn) : Prop := I64 r.err ∧ I64 r.id ∧ I64 r.n ∧ I64 r.st ∧ I64 r.ti
def numsB (r : RepIn) : List UInt8 := intB r.id ++ (intB r.n ++ (intB r.st ++ intB r.ti))
def repB (r : RepIn) : List UInt8 := uintB r.err ++ (if r.err = 0 then numsB r else [])
/-- What Put answers. -/
def putV (r : RepIn) : List UInt8 × Int := if May r then (repB r, 0) else ([], 1)
/-- What is read. -/
def rdR (s : List UInt8) : RepIn × Option (List UInt8) :=
  let u := uintS 14 (some s)
  if u.1 = 0 then
    let a := intS u.2
    let b := intS a.2
    let c := intS b.2
    let d := intS c.2
    (⟨0, a.1, b.1, c.1, d.1⟩, d.2)
  else (ofE u.1, u.2)
/-- What Take answers. -/
def takeV (s : List UInt8) : RepIn × Int := if doneS (rdR s).2 = true then ((rdR s).1, 0) else (ofE 0, 2)
theorem may_put {r : RepIn} (h : May r) : putV r = (repB r, 0) := by
  unfold putV
  rw [if_pos h]
theorem may_not {r : RepIn} (h : ¬ May r) : putV r = ([], 1) := by
  unfold putV
  rw [if_neg h]
theorem done_iff {o : Option (List UInt8)} (h : doneS o = true) : o = some [] := by
  cases o with
  | none => cases h
  | some l => cases l with
    | nil => rfl
    | cons a b => cases h
/-- What is put is taken as it was. -/
theorem take_put (r : RepIn) (hr : Rok r) (h : May r) : takeV (repB r) = (r, 0) := by
  obtain ⟨h0, h1, h2⟩ := h
  obtain ⟨r0, r1, r2, r3, r4⟩ := hr
  have e : rdR (repB r) = (r, some []) := by
    by_cases hz : r.err = 0
    · have e : repB r = uintB 0 ++ (intB r.id ++ (intB r.n ++ (intB r.st ++ (intB r.ti ++ [])))) := by
        unfold repB numsB
        rw [if_pos hz, hz]
        simp
      unfold rdR
      rw [e, uint_put 14 0 (by omega) (by omega) (by omega)]
      dsimp only
      rw [if_pos rfl, int_put r1]
      dsimp only
      rw [int_put r2]
      dsimp only
      rw [int_put r3]
      dsimp only
      rw [int_put r4]
      cases r
      dsimp only at hz ⊢
      rw [hz]
    · have e : repB r = uintB r.err ++ [] := by
        unfold repB
        rw [if_neg hz]
      have e2 := h2.resolve_left hz
      unfold rdR
      rw [e, uint_put 14 r.err h0 h1 (by omega)]
      dsimp only
      rw [if_neg hz, ← e2]
  unfold takeV
  rw [e]
  rfl
/-- What is taken was put so. -/
theorem put_take (s : List UInt8) (h : (takeV s).2 = 0) : Rok (takeV s).1 ∧ May (takeV s).1 ∧ repB (takeV s).1 = s := by
  unfold takeV at h ⊢
  split at h
  case isFalse => cases h
  case isTrue hd =>
  rw [if_pos hd]
  have hsome := done_iff hd
  obtain ⟨b0, b1, b2⟩ := Pen.uint_bounds 14 (some s) (by decide)
  unfold rdR at hsome ⊢
  obtain ⟨u, hu⟩ : ∃ u, uintS 14 (some s) = u := ⟨_, rfl⟩
  rw [hu] at hsome b0 b1 b2 ⊢
  dsimp only at hsome ⊢
  have hz0 : I64 0 := ⟨by decide, by decide⟩
  by_cases hz : u.1 = 0
  · rw [if_pos hz] at hsome ⊢
    dsimp only at hsome ⊢
    have t4 := int_back hsome
    have t3 := int_back t4
    have t2 := int_back t3
    have t1 := int_back t2
    have s1 := uint_back (most := 14) (o := some s) (by rw [hu]; exact t1)
    rw [hu] at s1
    refine ⟨⟨hz0, int_in _, int_in _, int_in _, int_in _⟩, ⟨by show (0 : Int) ≤ 0; omega, by show (0 : Int) ≤ 14; omega, Or.inl rfl⟩, ?_⟩
    have := Option.some.inj s1
    unfold repB numsB
    rw [if_pos rfl]
    rw [hz] at this
    conv => rhs; rw [this]
    simp
  · rw [if_neg hz] at hsome ⊢
    dsimp only at hsome ⊢
    have s1 := uint_back (most := 14) (o := some s) (by rw [hu]; exact hsome)
    rw [hu] at s1
    refine ⟨⟨⟨by show _ ≤ u.1; omega, by show u.1 ≤ _; omega⟩, hz0, hz0, hz0, hz0⟩, ⟨b0, b1, Or.inr rfl⟩, ?_⟩
    have := Option.some.inj s1
    unfold repB
    rw [if_neg (show ¬ (ofE u.1).err = 0 from hz), List.append_nil]
    rw [List.append_nil] at this
    exact this.symm
theorem takeV_err (s : List UInt8) : (takeV s).2 = 0 ∨ ((takeV s).2 = 2 ∧ (takeV s).1 = ofE 0) := by
  unfold takeV
  split
  · exact Or.inl rfl
  · exact Or.inr ⟨rfl, rfl⟩
theorem repB_inj {a b : RepIn} (ha : Rok a) (hb : Rok b) (ma : May a) (mb : May b) (h : repB a = repB b) : a = b := by
  have h1 := take_put a ha ma
  rw [h, take_put b hb mb] at h1
  exact (Prod.mk.inj h1).1.symm
end Rep
end Go.Proofs.YtmaddebfoefckaaDoor
