/- Whether a blueprint may be. -/
import Derived.Test.YtblefohjnmmpmaaRecD
import Derived.Test.YtblefohjnmmpmaaRecF
import Derived.Test.YtblefohjnmmpmaaRecM2
namespace Go.Proofs.Ytblefohjnmmpmaa
open Go.RowKit
namespace Rec
/-- A blueprint, as it comes in. -/
structure BlueIn where
  makes : Int
  per : Int
  time : Int
  needs : List Stk
  addr : Option Addr
  cap : Nat
  copy : Int
  study : Int
  most : Int
def BlueIn.val (b : BlueIn) : Array Value := #[.int .i64 b.makes, .int .i64 b.per, .int .i64 b.time, .slice b.addr b.needs.length b.cap, .int .i64 b.copy, .int .i64 b.study, .int .i64 b.most]
def bnds (b : BlueIn) (types : Int) : List Bnd := [(types, 0, 32), (b.makes, 1, types), (b.per, 1, 1048576), (b.time, 1, 1048576), (b.copy, 0, 1048576), (b.study, 0, 1048576), (b.most, 1, 1000)]
/-- What a check of a blueprint answers. -/
def bchk (b : BlueIn) (types : Int) : Int := if fitsTo (bnds b types) 7 && (decide (chk b.needs types = 0) && decide (cnt b.needs b.makes b.needs.length = 0)) then 0 else 1
/-- Needs that came in lie as they did. -/
def Came (w : World) (b : BlueIn) : Prop := b.needs.length ≤ 12 ∧ Stks w b.addr b.needs ∧ (∀ k, k < b.needs.length → (Lit.int .i64 (b.needs.getD k (0, 0)).1).wf = true) ∧ (Lit.int .i64 b.makes).wf = true
theorem chk_fair (l : List Stk) (types : Int) (h : chk l types = 0) : Fair l := by
  cases hg : goodTo l types l.length
  · unfold chk at h; rw [hg] at h; cases h
  · exact fair_of l types hg
theorem cnt_nonneg (l : List Stk) (hf : Fair l) (x : Int) (k : Nat) (hk : k ≤ l.length) : 0 ≤ cnt l x k := by
  induction k with
  | zero => exact Int.le_refl 0
  | succ k ih =>
    rw [cnt]
    have := (hf k (by omega)).2.1
    split
    · omega
    · exact ih (by omega)
/-- Seven bounds in a block of their own. -/
theorem bnds_new (W : World) (b : BlueIn) (types : Int) (t : TypeId) : Bnds (W.alloc (.cells #[.int .i64 types, .int .i64 0, .int .i64 32, .int .i64 b.makes, .int .i64 1, .int .i64 types, .int .i64 b.per, .int .i64 1, .int .i64 1048576, .int .i64 b.time, .int .i64 1, .int .i64 1048576, .int .i64 b.copy, .int .i64 0, .int .i64 1048576, .int .i64 b.study, .int .i64 0, .int .i64 1048576, .int .i64 b.most, .int .i64 1, .int .i64 1000] t)) (some ⟨W.heap.size, 0, none⟩) (bnds b types) := by
  intro i hi
  refine ⟨W.heap.size, 0, rfl, by rw [World.size_alloc]; omega, ?_⟩
  match i, hi with
  | 0, _ => go_simp; exact ⟨rfl, rfl, rfl⟩
  | 1, _ => go_simp; exact ⟨rfl, rfl, rfl⟩
  | 2, _ => go_simp; exact ⟨rfl, rfl, rfl⟩
  | 3, _ => go_simp; exact ⟨rfl, rfl, rfl⟩
  | 4, _ => go_simp; exact ⟨rfl, rfl, rfl⟩
  | 5, _ => go_simp; exact ⟨rfl, rfl, rfl⟩
  | 6, _ => go_simp; exact ⟨rfl, rfl, rfl⟩
/-- A box stays as it is over a call behind it. -/
theorem box_cell {w w1 : World} {cs : Array Value} {t : TypeId} (h : Below (w.alloc (.cells cs t)).heap.size (w.alloc (.cells cs t)) w1) (i : Nat) : w1.cell? ⟨w.heap.size, i, none⟩ = cs[i]? := by
  refine (h.cell (by rw [World.size_alloc]; exact Nat.lt_succ_self _)).trans ?_
  go_simp
theorem box_lt {w w1 : World} {cs : Array Value} {t : TypeId} (h : Below (w.alloc (.cells cs t)).heap.size (w.alloc (.cells cs t)) w1) : w.heap.size < w1.heap.size := by
  have := h.size
  rw [World.size_alloc] at this
  omega
set_option maxRecDepth 100000 in
set_option maxHeartbeats 2000000 in
theorem check_any (b : BlueIn) (types : Int) (w : World) (hb : Came w b) :
    Calls Try.prog 15 #[.agg b.val, .int .i64 types] w fun e w' => e = .returned (.int .i64 (bchk b types)) ∧ Below w.heap.size w w' := by
  have HB := Lib.hid hb
  have CF : Hid (∀ (W : World) (t : TypeId) (g : Nat), g = W.heap.size → Calls Try.prog 28 #[.slice (some ⟨g, 0, none⟩) 7 7] (W.alloc (.cells #[.int .i64 types, .int .i64 0, .int .i64 32, .int .i64 b.makes, .int .i64 1, .int .i64 types, .int .i64 b.per, .int .i64 1, .int .i64 1048576, .int .i64 b.time, .int .i64 1, .int .i64 1048576, .int .i64 b.copy, .int .i64 0, .int .i64 1048576, .int .i64 b.study, .int .i64 0, .int .i64 1048576, .int .i64 b.most, .int .i64 1, .int .i64 1000] t)) fun e w' => e = .returned (.bool (fitsTo (bnds b types) 7)) ∧ Below W.heap.size W w') := by
    intro W t g hg
    subst hg
    refine (fits_any _ 7 (bnds b types) (by unfold maxLen; show 7 ≤ _; omega) _ (bnds_new W b types t)).mono fun e w' ⟨h1, h2⟩ => ⟨h1, ((Below.refl _ _).alloc (Nat.le_refl _) _).trans (h2.mono (by rw [World.size_alloc]; omega))⟩
  have HS : Hid (bchk b types = if fitsTo (bnds b types) 7 && (decide (chk b.needs types = 0) && decide (cnt b.needs b.makes b.needs.length = 0)) then 0 else 1) := rfl
  have C1 : Hid (∀ W : World, Below w.heap.size w W → Calls Try.prog 29 #[.slice b.addr b.needs.length b.cap, .int .i64 types] W fun e w' => e = .returned (.int .i64 (chk b.needs types)) ∧ Below W.heap.size W w') := fun W h => goodsCheck_any _ _ _ (by have := HB.out.1; unfold maxLen; omega) _ _ (HB.out.2.1.below h)
  have C2 : Hid (chk b.needs types = 0 → ∀ W : World, Below w.heap.size w W → Calls Try.prog 30 #[.slice b.addr b.needs.length b.cap, .int .i64 b.makes] W fun e w' => e = .returned (.int .i64 (cnt b.needs b.makes b.needs.length)) ∧ Below W.heap.size W w') := fun hc W h => count_any _ _ _ (by have := HB.out.1; unfold maxLen; omega) (chk_fair _ _ hc) HB.out.2.2.1 _ HB.out.2.2.2 _ (HB.out.2.1.below h)
  have C3 : Hid (chk b.needs types = 0 → 0 ≤ cnt b.needs b.makes b.needs.length) := fun hc => cnt_nonneg _ (chk_fair _ _ hc) _ _ (Nat.le_refl _)
  have C4 : Hid (chk b.needs types = 0 ∨ chk b.needs types = 1) := by show _ ∨ _; unfold chk; split <;> simp
  generalize bchk b types = R at *
  generalize chk b.needs types = K at *
  generalize cnt b.needs b.makes b.needs.length = N at *
  generalize fitsTo (bnds b types) 7 = F at *
  unfold BlueIn.val
  clear hb
  cases F
  · have HR : Hid (R = 1) := by show R = 1; rw [HS.out]; rfl
    go_enter Try.func15, Try.ntmps15
    go_wp2_with (go_at_call 28; ((with_reducible refine (CF.out _ _ _ (by simp)).mono ?_); rintro e w1 ⟨rfl, hb1⟩))
    go_ret
    exact ⟨by rw [HR.out]; rfl, ((Below.refl _ _).alloc (Nat.le_refl _) _).trans (hb1.mono (by simp))⟩
  · rcases C4.out with rfl | rfl
    · replace C3 := Lib.hid (C3.out rfl)
      replace C2 := Lib.hid (C2.out rfl)
      by_cases h0 : N = 0
      · have HR : Hid (R = 0) := by show R = 0; rw [HS.out, h0]; rfl
        subst h0
        go_enter Try.func15, Try.ntmps15
        go_wp2_with (first
          | (go_at_call 28; ((with_reducible refine (CF.out _ _ _ (by simp)).mono ?_); rintro e w1 ⟨rfl, hb1⟩; have hb1' := ((Below.refl w.heap.size w).alloc (Nat.le_refl _) _).trans (hb1.mono (by simp)); have s1 := Lib.hid (box_lt hb1); have c0 := box_cell hb1 0; have c3 := box_cell hb1 3; simp only [List.getElem?_toArray, List.getElem?_cons_zero, List.getElem?_cons_succ] at c0 c3))
          | (go_at_call 29; ((with_reducible refine (C1.out _ hb1').mono ?_); rintro e w2 ⟨rfl, hb2⟩; have hb2' := below2 hb1' hb2; replace c0 := (hb2.cell s1.out).trans c0; replace c3 := (hb2.cell s1.out).trans c3))
          | (go_at_call 30; ((with_reducible refine (C2.out _ hb2').mono ?_); rintro e w3 ⟨rfl, hb3⟩)))
        go_ret
        exact ⟨by rw [HR.out]; rfl, below2 hb2' hb3⟩
      · have HR : Hid (R = 1) := by show R = 1; rw [HS.out, decide_eq_false h0]; rfl
        have hN : 0 < N := by have := C3.out; omega
        have dN : decide (0 < N) = true := decide_eq_true hN
        go_enter Try.func15, Try.ntmps15
        go_wp2_with (first
          | (go_at_call 28; ((with_reducible refine (CF.out _ _ _ (by simp)).mono ?_); rintro e w1 ⟨rfl, hb1⟩; have hb1' := ((Below.refl w.heap.size w).alloc (Nat.le_refl _) _).trans (hb1.mono (by simp)); have s1 := Lib.hid (box_lt hb1); have c0 := box_cell hb1 0; have c3 := box_cell hb1 3; simp only [List.getElem?_toArray, List.getElem?_cons_zero, List.getElem?_cons_succ] at c0 c3))
          | (go_at_call 29; ((with_reducible refine (C1.out _ hb1').mono ?_); rintro e w2 ⟨rfl, hb2⟩; have hb2' := below2 hb1' hb2; replace c0 := (hb2.cell s1.out).trans c0; replace c3 := (hb2.cell s1.out).trans c3))
          | (go_at_call 30; ((with_reducible refine (C2.out _ hb2').mono ?_); rintro e w3 ⟨rfl, hb3⟩)))
        go_ret
        exact ⟨by rw [HR.out]; rfl, below2 hb2' hb3⟩
    · have HR : Hid (R = 1) := by show R = 1; rw [HS.out]; rfl
      go_enter Try.func15, Try.ntmps15
      go_wp2_with (first
        | (go_at_call 28; ((with_reducible refine (CF.out _ _ _ (by simp)).mono ?_); rintro e w1 ⟨rfl, hb1⟩; have hb1' := ((Below.refl w.heap.size w).alloc (Nat.le_refl _) _).trans (hb1.mono (by simp)); have s1 := Lib.hid (box_lt hb1); have c0 := box_cell hb1 0; have c3 := box_cell hb1 3; simp only [List.getElem?_toArray, List.getElem?_cons_zero, List.getElem?_cons_succ] at c0 c3))
        | (go_at_call 29; ((with_reducible refine (C1.out _ hb1').mono ?_); rintro e w2 ⟨rfl, hb2⟩; have hb2' := below2 hb1' hb2; replace c0 := (hb2.cell s1.out).trans c0; replace c3 := (hb2.cell s1.out).trans c3)))
      go_ret
      exact ⟨by rw [HR.out]; rfl, hb2'⟩
end Rec
end Go.Proofs.Ytblefohjnmmpmaa
