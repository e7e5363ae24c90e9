/- A command's numbers: reading one, changing one; the copies of its stacks. -/
import Derived.Test.YtbjlkeneeodghaaDoorCmdV
import Derived.Test.YtbjlkeneeodghaaDoorOrdU
import Derived.Lib.LazyBuf
import Derived.Lib.SliceRun
set_option linter.unusedSimpArgs false
set_option linter.unusedVariables false
namespace Go.Proofs.YtbjlkeneeodghaaDoor
open Go.RowKit Go.Great
namespace Cmd
open Pen (bs)
open In (Strs)
open Rec (below2 below_al below_dN Stk Stks stkVals stks_of_own stkVals_length stkVals_get)
theorem info_parts {P : Program} {e : TypeId} {z : Value} {n b : Nat} (h : (P.info? e).map (fun i => (i.zero, i.size, i.bytes)) = some (some z, n, b)) : ∃ i, P.info? e = some i ∧ i.zero = some z ∧ i.size = n ∧ i.bytes = b := by
  cases hi : P.info? e with
  | none => rw [hi] at h; cases h
  | some i =>
    rw [hi] at h
    simp only [Option.map_some, Option.some.injEq, Prod.mk.injEq] at h
    exact ⟨i, rfl, h.1, h.2.1, h.2.2⟩
theorem stkinfo : (Tryd.prog.info? 52).map (fun i => (i.zero, i.size, i.bytes)) = some (some (.agg #[.int .i64 0, .int .i64 0]), 2, 16) := by kernel_rfl
/-- Stacks are given back. -/
def GivesS (l : List Stk) (w : World) (e : Ending) (w' : World) : Prop := ∃ a c, e = .returned (.slice a l.length c) ∧ Hid (Stks w' a l) ∧ Hid (Below w.heap.size w w') ∧ Hid (∀ x, a = some x → w.heap.size ≤ x.block)
theorem own_far {w : World} {base n m : Nat} {T : TypeId} {a : Option Addr} {c : Nat} {xs : List Value} (h : w.ownsRow base T 2 (.slice a n c) m xs) : ∀ x, a = some x → base ≤ x.block := by
  rcases h.2 with ⟨e, _⟩ | ⟨g, cap, cur, e, hb, _⟩
  · cases e; intro x hx; cases hx
  · cases e; intro x hx; cases hx; exact hb
theorem stks_cell {w : World} {b off : Nat} {l : List Stk} (h : Stks w (some ⟨b, off, none⟩) l) (j : Nat) (u : Value) (hu : (stkVals l)[j]? = some u) : w.cell? ⟨b, off + j, none⟩ = some u := by
  have hj : j < (stkVals l).length := (List.getElem?_eq_some_iff.1 hu).1
  rw [stkVals_length] at hj
  have hi : j / 2 < l.length := by omega
  obtain ⟨b', off', e, _, h1, h2⟩ := h (j / 2) hi
  cases e
  obtain ⟨g1, g2⟩ := stkVals_get l (j / 2) hi
  rcases Nat.mod_two_eq_zero_or_one j with hm | hm
  · have e1 : j / 2 * 2 = j := by omega
    rw [e1] at g1 h1
    rw [h1, ← g1, hu]
  · have e1 : j / 2 * 2 + 1 = j := by omega
    rw [e1] at g2
    rw [Nat.add_assoc, e1] at h2
    rw [h2, ← g2, hu]
theorem stk_one (l : List Stk) : ∀ u ∈ stkVals l, u.oneCell' = true := by
  intro u hu
  simp only [stkVals, List.mem_flatMap, List.mem_cons, List.not_mem_nil, or_false] at hu
  obtain ⟨s, _, rfl | rfl⟩ := hu <;> rfl
set_option maxHeartbeats 2000000 in
set_option maxRecDepth 100000 in
theorem clone_any (a : Option Addr) (c : Nat) (l : List Stk) (n : Nat) (hn : l.length = n) (hl : n ≤ 100) (w : World) (ha : Stks w a l) :
    Calls Tryd.prog 48 #[.slice a n c] w (GivesS l w) := by
  have HA := Lib.hid ha
  have HN := Lib.hid hn
  have q22 : ∀ (w : World) (a : Option Addr) (n c : Nat), (binOp .eql 22 (.slice a n c) (.slice none 0 0)).run Tryd.prog w = .ok (.bool a.isNone) w := fun w a n c => Lib.run_eql_slice_nil w _ _ a n c _ _ Tryd.underlying22
  obtain ⟨i0, hi, hz0, hz1, hz2⟩ := info_parts stkinfo
  cases a with
  | none =>
    have h0 : l = [] := by
      cases l with
      | nil => rfl
      | cons x l => obtain ⟨b, off, e, _⟩ := ha 0 (by simp); cases e
    have HL : Hid (l.length = 0) := by show l.length = 0; rw [h0]; rfl
    have HQ : Hid (∀ w', Stks w' none l) := fun w' i hi => by rw [HL.out] at hi; omega
    clear h0 ha hn
    go_enter Tryd.func48, Tryd.ntmps48
    go_wp2
    go_ret
    exact ⟨none, 0, by rw [HL.out]; rfl, HQ.out _, Below.refl _ _, fun x hx => by cases hx⟩
  | some x =>
    have hx : ∃ y : Addr, (∀ j u, (stkVals l)[j]? = some u → w.cell? (y.add j) = some u) ∧ x = y := by
      refine ⟨x, fun j u hj => ?_, rfl⟩
      have hj1 : j < (stkVals l).length := (List.getElem?_eq_some_iff.1 hj).1
      rw [stkVals_length] at hj1
      obtain ⟨b, off, e, _⟩ := ha 0 (by omega)
      cases e
      have e2 : (⟨b, off, none⟩ : Addr).add j = ⟨b, off + j, none⟩ := by unfold Addr.add; split <;> simp_all
      rw [e2]
      exact stks_cell ha j u hj
    obtain ⟨y, hy, rfl⟩ := hx
    have HY := Lib.hid hy
    clear hy ha hn
    go_enter Tryd.func48, Tryd.ntmps48
    go_wp2_with (at_builtin; refine wpList_append_own _ rfl _ _ 22 rfl w.heap.size 52 i0 _ 2 16 Tryd.underlying22 hi hz0 hz1 hz2 rfl (by omega) _ _ _ rfl (World.ownsRow_made w #[] 0 (Nat.le_refl _) (Nat.zero_le _) (by simp)) x n c (stkVals l) rfl ?qc1 ?qc2 ?qc3 ?qc4 ?qc5 ?qc6 ?_)
    case qc1 => rw [stkVals_length, HN.out]
    case qc2 =>
      intro j u hj
      exact Lib.cell?_alloc_some _ (HY.out j u hj)
    case qc3 => exact stk_one l
    case qc4 => unfold maxLen; omega
    case qc5 => omega
    case qc6 => simp
    intro v' w1 hown hgrow hnil
    go_wp2
    go_ret
    have hown2 : w1.ownsRow w.heap.size 52 2 v' l.length (stkVals l) := by
      rw [HN.out]
      simpa using hown
    obtain ⟨a', c', rfl, hs⟩ := stks_of_own hown2
    have hfar := own_far hown2
    exact ⟨a', c', rfl, hs, ((Below.refl _ w).alloc (Nat.le_refl _) _).grown hgrow (by simp) (by intro k hk; simp [Value.ownBlock] at hk; omega), hfar⟩
end Cmd
end Go.Proofs.YtbjlkeneeodghaaDoor
