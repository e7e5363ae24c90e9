/- Texts put together: TakE, TakB, TakC, TakD, TakF, TakG. -/
import Derived.Test.YtfincohdchnniaaBk
import Derived.Deep.RegionHeld3
import Derived.Deep.DeepCutAuto
import Derived.Laws.Rows
import Derived.Laws.ResultCell
import Derived.Deep.RegionLaw
import Derived.Deep.AppendLies
import Derived.Test.YtfincohdchnniaaBf
set_option linter.all false
namespace Go.Proofs.Ytfincohdchnniaa
open Go.RowKit
namespace Cat
open Pen (uintS uint_bounds)
theorem num_nat (n : Int) (h : 0 ≤ n) : ∃ m : Nat, n = (m : Int) ∧ n.toNat = m := ⟨n.toNat, (Int.toNat_of_nonneg h).symm, rfl⟩
set_option maxRecDepth 100000 in
set_option maxHeartbeats 4000000 in
theorem eachN_any {α : Type} (caps : Array Value) (step : List α × Left → List α × Left) (Inv : List α × Left → World → Prop) (most : Int) (g : Nat) (o : Left) (w : World) (hmost : 0 ≤ most) (h : Rd 86 QP w g o)
    (H0 : ∀ w1 o1, (w.alloc (.cells #[.pointer (some ⟨g, 0, none⟩)] 64)).grownBy w1 (some g) → Rd 86 QP w1 g o1 → Inv ([], o1) w1)
    (Hrd : ∀ s w1, Inv s w1 → Rd 86 QP w1 g s.2)
    (Hbox : ∀ s w1, Inv s w1 → w1.cell? ⟨w.heap.size, 0, none⟩ = some (.pointer (some ⟨g, 0, none⟩)))
    (Hstep : ∀ s w1, Inv s w1 → s.2.isNone = false → s.1.length ≤ most.toNat → Calls Try.prog 53 caps w1 fun e w' => e = .returned (.tuple #[]) ∧ Hid (Inv (step s) w'))
    (Hnone : ∀ s, s.2.isNone = true → step s = s)
    (Hlen : ∀ k s, (it step k s).1.length ≤ s.1.length + k) :
    Calls Try.prog 30 #[.agg #[.pointer (some ⟨g, 0, none⟩)], .int .i64 most, .func (.func 53) #[] caps] w fun e w' => e = .returned (.tuple #[]) ∧ Hid (Inv (it step (uintS most o).1.toNat ([], (uintS most o).2)) w') := by
  have CU : Hid (∀ W, Rd 86 QP W g o → Calls Try.prog 51 #[.pointer (some ⟨g, 0, none⟩), .int .i64 most] W (Rs 86 QP W g (uintS most o))) := fun W h => pUint_any g o _ W h
  have CB : Hid (∀ W o, Rd 86 QP W g o → Calls Try.prog 52 #[.pointer (some ⟨g, 0, none⟩)] W fun e w' => e = .returned (.bool o.isNone) ∧ W = w') := fun W o h => pBad_any g o W h
  obtain ⟨n, hn, hn2⟩ := num_nat _ (uint_bounds most o hmost).1
  have hnm : n ≤ most.toNat := by have := (uint_bounds most o hmost).2.1; omega
  have hni : (n : Int) ≤ 9223372036854775807 := by have := (uint_bounds most o hmost).2.2; omega
  rw [hn2]
  obtain ⟨o1, ho1⟩ : ∃ o1, Hid ((uintS most o).2 = o1) := ⟨_, rfl⟩
  rw [ho1.out]
  have HX := Lib.hid (h.alloc (.cells #[.pointer (some ⟨g, 0, none⟩)] 64))
  have I0 := Lib.hid H0
  have IR := Lib.hid Hrd
  have IB := Lib.hid Hbox
  have IS := Lib.hid Hstep
  have IN := Lib.hid Hnone
  have IL := Lib.hid Hlen
  have hgl := h.lt
  unfold Rs at *
  rw [hn, ho1.out] at CU
  clear h H0 Hrd Hbox Hstep Hnone Hlen hn hn2
  go_enter Try.func30, Try.ntmps30
  go_wp2_with (go_at_call 51; (with_reducible refine (CU.out _ HX.out).mono ?_); rintro e w1 ⟨rfl, HR, HG⟩)
  have HI := Lib.hid (I0.out _ _ HG.out HR.out)
  go_loopw [10] (fun v10 wr => ∃ k : Nat, k ≤ n ∧ v10 = .int .i64 (k : Int) ∧ Hid (Inv (it step k ([], o1)) wr)) (fun v10 _ => n - (intOf v10).toNat)
  case atStart => exact ⟨0, by omega, rfl, HI⟩
  case round =>
    obtain ⟨k, hk, rfl, HIk⟩ := hrel
    have HL := Lib.hid (IL.out k ([], o1))
    have HS1 : Hid (it step (k + 1) ([], o1) = step (it step k ([], o1))) := rfl
    by_cases hlt : k < n
    · have hlt1 : (k : Int) < (n : Int) := by omega
      have cb := IB.out _ _ HIk.out
      have HRk := Lib.hid (IR.out _ _ HIk.out)
      have HADD : Hid ((it step k ([], o1)).2.isNone = true → it step n ([], o1) = it step k ([], o1)) := fun e => it_add step k n _ (IN.out _ e) (by omega)
      generalize it step k ([], o1) = s at *
      cases hs : s.2.isNone with
      | true =>
        have CB2 : Hid (Calls Try.prog 52 #[.pointer (some ⟨g, 0, none⟩)] wr fun e w' => e = .returned (.bool true) ∧ wr = w') := by
          have := CB.out wr _ HRk.out
          rw [hs] at this
          exact this
        have HE := Lib.hid (HADD.out hs)
        clear hs
        go_wp2_with (go_at_call 52; (with_reducible refine CB2.out.mono ?_); rintro e w2 ⟨rfl, rfl⟩)
        (try simp only [Exit.inBlock, Exit.then])
        refine bodyPost_ret (results_none rfl _ _ _) rfl ?_
        exact ⟨rfl, by rw [HE.out]; exact HIk⟩
      | false =>
        have CB2 : Hid (Calls Try.prog 52 #[.pointer (some ⟨g, 0, none⟩)] wr fun e w' => e = .returned (.bool false) ∧ wr = w') := by
          have := CB.out wr _ HRk.out
          rw [hs] at this
          exact this
        have CS := Lib.hid (IS.out s wr HIk.out hs (by have := HL.out; simp at this; omega))
        clear hs HADD
        go_wp2_with (first
          | (go_at_call 52; (with_reducible refine CB2.out.mono ?_); rintro e w2 ⟨rfl, rfl⟩)
          | (go_at_call 53; (with_reducible refine CS.out.mono ?_); rintro e w3 ⟨rfl, HI3⟩))
        go_roundw
        case rel => exact ⟨k + 1, by omega, by go_num, by rw [HS1.out]; exact HI3⟩
        case measure => simp [intOf]; omega
    · have hke : k = n := by omega
      rw [hke] at HIk
      have hge : ¬ (k : Int) < (n : Int) := by omega
      clear hlt
      go_wp2
      go_end0
      exact ⟨rfl, HIk⟩
set_option maxRecDepth 100000 in
set_option maxHeartbeats 4000000 in
theorem eachB_any {α : Type} (caps : Array Value) (step : List α × Left → List α × Left) (Inv : List α × Left → World → Prop) (most : Int) (g : Nat) (o : Left) (w : World) (hmost : 0 ≤ most) (h : Rd 86 QP w g o)
    (H0 : ∀ w1 o1, (w.alloc (.cells #[.pointer (some ⟨g, 0, none⟩)] 64)).grownBy w1 (some g) → Rd 86 QP w1 g o1 → Inv ([], o1) w1)
    (Hrd : ∀ s w1, Inv s w1 → Rd 86 QP w1 g s.2)
    (Hbox : ∀ s w1, Inv s w1 → w1.cell? ⟨w.heap.size, 0, none⟩ = some (.pointer (some ⟨g, 0, none⟩)))
    (Hstep : ∀ s w1, Inv s w1 → s.2.isNone = false → s.1.length ≤ most.toNat → Calls Try.prog 31 caps w1 fun e w' => e = .returned (.tuple #[]) ∧ Hid (Inv (step s) w'))
    (Hnone : ∀ s, s.2.isNone = true → step s = s)
    (Hlen : ∀ k s, (it step k s).1.length ≤ s.1.length + k) :
    Calls Try.prog 30 #[.agg #[.pointer (some ⟨g, 0, none⟩)], .int .i64 most, .func (.func 31) #[] caps] w fun e w' => e = .returned (.tuple #[]) ∧ Hid (Inv (it step (uintS most o).1.toNat ([], (uintS most o).2)) w') := by
  have CU : Hid (∀ W, Rd 86 QP W g o → Calls Try.prog 51 #[.pointer (some ⟨g, 0, none⟩), .int .i64 most] W (Rs 86 QP W g (uintS most o))) := fun W h => pUint_any g o _ W h
  have CB : Hid (∀ W o, Rd 86 QP W g o → Calls Try.prog 52 #[.pointer (some ⟨g, 0, none⟩)] W fun e w' => e = .returned (.bool o.isNone) ∧ W = w') := fun W o h => pBad_any g o W h
  obtain ⟨n, hn, hn2⟩ := num_nat _ (uint_bounds most o hmost).1
  have hnm : n ≤ most.toNat := by have := (uint_bounds most o hmost).2.1; omega
  have hni : (n : Int) ≤ 9223372036854775807 := by have := (uint_bounds most o hmost).2.2; omega
  rw [hn2]
  obtain ⟨o1, ho1⟩ : ∃ o1, Hid ((uintS most o).2 = o1) := ⟨_, rfl⟩
  rw [ho1.out]
  have HX := Lib.hid (h.alloc (.cells #[.pointer (some ⟨g, 0, none⟩)] 64))
  have I0 := Lib.hid H0
  have IR := Lib.hid Hrd
  have IB := Lib.hid Hbox
  have IS := Lib.hid Hstep
  have IN := Lib.hid Hnone
  have IL := Lib.hid Hlen
  have hgl := h.lt
  unfold Rs at *
  rw [hn, ho1.out] at CU
  clear h H0 Hrd Hbox Hstep Hnone Hlen hn hn2
  go_enter Try.func30, Try.ntmps30
  go_wp2_with (go_at_call 51; (with_reducible refine (CU.out _ HX.out).mono ?_); rintro e w1 ⟨rfl, HR, HG⟩)
  have HI := Lib.hid (I0.out _ _ HG.out HR.out)
  go_loopw [10] (fun v10 wr => ∃ k : Nat, k ≤ n ∧ v10 = .int .i64 (k : Int) ∧ Hid (Inv (it step k ([], o1)) wr)) (fun v10 _ => n - (intOf v10).toNat)
  case atStart => exact ⟨0, by omega, rfl, HI⟩
  case round =>
    obtain ⟨k, hk, rfl, HIk⟩ := hrel
    have HL := Lib.hid (IL.out k ([], o1))
    have HS1 : Hid (it step (k + 1) ([], o1) = step (it step k ([], o1))) := rfl
    by_cases hlt : k < n
    · have hlt1 : (k : Int) < (n : Int) := by omega
      have cb := IB.out _ _ HIk.out
      have HRk := Lib.hid (IR.out _ _ HIk.out)
      have HADD : Hid ((it step k ([], o1)).2.isNone = true → it step n ([], o1) = it step k ([], o1)) := fun e => it_add step k n _ (IN.out _ e) (by omega)
      generalize it step k ([], o1) = s at *
      cases hs : s.2.isNone with
      | true =>
        have CB2 : Hid (Calls Try.prog 52 #[.pointer (some ⟨g, 0, none⟩)] wr fun e w' => e = .returned (.bool true) ∧ wr = w') := by
          have := CB.out wr _ HRk.out
          rw [hs] at this
          exact this
        have HE := Lib.hid (HADD.out hs)
        clear hs
        go_wp2_with (go_at_call 52; (with_reducible refine CB2.out.mono ?_); rintro e w2 ⟨rfl, rfl⟩)
        (try simp only [Exit.inBlock, Exit.then])
        refine bodyPost_ret (results_none rfl _ _ _) rfl ?_
        exact ⟨rfl, by rw [HE.out]; exact HIk⟩
      | false =>
        have CB2 : Hid (Calls Try.prog 52 #[.pointer (some ⟨g, 0, none⟩)] wr fun e w' => e = .returned (.bool false) ∧ wr = w') := by
          have := CB.out wr _ HRk.out
          rw [hs] at this
          exact this
        have CS := Lib.hid (IS.out s wr HIk.out hs (by have := HL.out; simp at this; omega))
        clear hs HADD
        go_wp2_with (first
          | (go_at_call 52; (with_reducible refine CB2.out.mono ?_); rintro e w2 ⟨rfl, rfl⟩)
          | (go_at_call 31; (with_reducible refine CS.out.mono ?_); rintro e w3 ⟨rfl, HI3⟩))
        go_roundw
        case rel => exact ⟨k + 1, by omega, by go_num, by rw [HS1.out]; exact HI3⟩
        case measure => simp [intOf]; omega
    · have hke : k = n := by omega
      rw [hke] at HIk
      have hge : ¬ (k : Int) < (n : Int) := by omega
      clear hlt
      go_wp2
      go_end0
      exact ⟨rfl, HIk⟩
set_option maxRecDepth 100000 in
set_option maxHeartbeats 4000000 in
theorem eachY_any {α : Type} (caps : Array Value) (step : List α × Left → List α × Left) (Inv : List α × Left → World → Prop) (most : Int) (g : Nat) (o : Left) (w : World) (hmost : 0 ≤ most) (h : Rd 86 QP w g o)
    (H0 : ∀ w1 o1, (w.alloc (.cells #[.pointer (some ⟨g, 0, none⟩)] 64)).grownBy w1 (some g) → Rd 86 QP w1 g o1 → Inv ([], o1) w1)
    (Hrd : ∀ s w1, Inv s w1 → Rd 86 QP w1 g s.2)
    (Hbox : ∀ s w1, Inv s w1 → w1.cell? ⟨w.heap.size, 0, none⟩ = some (.pointer (some ⟨g, 0, none⟩)))
    (Hstep : ∀ s w1, Inv s w1 → s.2.isNone = false → s.1.length ≤ most.toNat → Calls Try.prog 33 caps w1 fun e w' => e = .returned (.tuple #[]) ∧ Hid (Inv (step s) w'))
    (Hnone : ∀ s, s.2.isNone = true → step s = s)
    (Hlen : ∀ k s, (it step k s).1.length ≤ s.1.length + k) :
    Calls Try.prog 30 #[.agg #[.pointer (some ⟨g, 0, none⟩)], .int .i64 most, .func (.func 33) #[] caps] w fun e w' => e = .returned (.tuple #[]) ∧ Hid (Inv (it step (uintS most o).1.toNat ([], (uintS most o).2)) w') := by
  have CU : Hid (∀ W, Rd 86 QP W g o → Calls Try.prog 51 #[.pointer (some ⟨g, 0, none⟩), .int .i64 most] W (Rs 86 QP W g (uintS most o))) := fun W h => pUint_any g o _ W h
  have CB : Hid (∀ W o, Rd 86 QP W g o → Calls Try.prog 52 #[.pointer (some ⟨g, 0, none⟩)] W fun e w' => e = .returned (.bool o.isNone) ∧ W = w') := fun W o h => pBad_any g o W h
  obtain ⟨n, hn, hn2⟩ := num_nat _ (uint_bounds most o hmost).1
  have hnm : n ≤ most.toNat := by have := (uint_bounds most o hmost).2.1; omega
  have hni : (n : Int) ≤ 9223372036854775807 := by have := (uint_bounds most o hmost).2.2; omega
  rw [hn2]
  obtain ⟨o1, ho1⟩ : ∃ o1, Hid ((uintS most o).2 = o1) := ⟨_, rfl⟩
  rw [ho1.out]
  have HX := Lib.hid (h.alloc (.cells #[.pointer (some ⟨g, 0, none⟩)] 64))
  have I0 := Lib.hid H0
  have IR := Lib.hid Hrd
  have IB := Lib.hid Hbox
  have IS := Lib.hid Hstep
  have IN := Lib.hid Hnone
  have IL := Lib.hid Hlen
  have hgl := h.lt
  unfold Rs at *
  rw [hn, ho1.out] at CU
  clear h H0 Hrd Hbox Hstep Hnone Hlen hn hn2
  go_enter Try.func30, Try.ntmps30
  go_wp2_with (go_at_call 51; (with_reducible refine (CU.out _ HX.out).mono ?_); rintro e w1 ⟨rfl, HR, HG⟩)
  have HI := Lib.hid (I0.out _ _ HG.out HR.out)
  go_loopw [10] (fun v10 wr => ∃ k : Nat, k ≤ n ∧ v10 = .int .i64 (k : Int) ∧ Hid (Inv (it step k ([], o1)) wr)) (fun v10 _ => n - (intOf v10).toNat)
  case atStart => exact ⟨0, by omega, rfl, HI⟩
  case round =>
    obtain ⟨k, hk, rfl, HIk⟩ := hrel
    have HL := Lib.hid (IL.out k ([], o1))
    have HS1 : Hid (it step (k + 1) ([], o1) = step (it step k ([], o1))) := rfl
    by_cases hlt : k < n
    · have hlt1 : (k : Int) < (n : Int) := by omega
      have cb := IB.out _ _ HIk.out
      have HRk := Lib.hid (IR.out _ _ HIk.out)
      have HADD : Hid ((it step k ([], o1)).2.isNone = true → it step n ([], o1) = it step k ([], o1)) := fun e => it_add step k n _ (IN.out _ e) (by omega)
      generalize it step k ([], o1) = s at *
      cases hs : s.2.isNone with
      | true =>
        have CB2 : Hid (Calls Try.prog 52 #[.pointer (some ⟨g, 0, none⟩)] wr fun e w' => e = .returned (.bool true) ∧ wr = w') := by
          have := CB.out wr _ HRk.out
          rw [hs] at this
          exact this
        have HE := Lib.hid (HADD.out hs)
        clear hs
        go_wp2_with (go_at_call 52; (with_reducible refine CB2.out.mono ?_); rintro e w2 ⟨rfl, rfl⟩)
        (try simp only [Exit.inBlock, Exit.then])
        refine bodyPost_ret (results_none rfl _ _ _) rfl ?_
        exact ⟨rfl, by rw [HE.out]; exact HIk⟩
      | false =>
        have CB2 : Hid (Calls Try.prog 52 #[.pointer (some ⟨g, 0, none⟩)] wr fun e w' => e = .returned (.bool false) ∧ wr = w') := by
          have := CB.out wr _ HRk.out
          rw [hs] at this
          exact this
        have CS := Lib.hid (IS.out s wr HIk.out hs (by have := HL.out; simp at this; omega))
        clear hs HADD
        go_wp2_with (first
          | (go_at_call 52; (with_reducible refine CB2.out.mono ?_); rintro e w2 ⟨rfl, rfl⟩)
          | (go_at_call 33; (with_reducible refine CS.out.mono ?_); rintro e w3 ⟨rfl, HI3⟩))
        go_roundw
        case rel => exact ⟨k + 1, by omega, by go_num, by rw [HS1.out]; exact HI3⟩
        case measure => simp [intOf]; omega
    · have hke : k = n := by omega
      rw [hke] at HIk
      have hge : ¬ (k : Int) < (n : Int) := by omega
      clear hlt
      go_wp2
      go_end0
      exact ⟨rfl, HIk⟩
end Cat
end Go.Proofs.Ytfincohdchnniaa
namespace Go.Proofs.Ytfincohdchnniaa
open Go.RowKit
namespace Cat
open Rec (BlueIn Stk Stks Came bchk inB stkVals stks_of_own stkVals_append)
open Pen (bs bs_append uintB uintS doneS below2 below_al below_dN uint_bounds)
theorem own_le {w : World} {base base' : Nat} {e : TypeId} {size : Nat} {v : Value} {n : Nat} {xs : List Value} (h : w.ownsRow base e size v n xs) (hb : base' ≤ base) : w.ownsRow base' e size v n xs :=
  ⟨h.1, by
    rcases h.2 with h0 | ⟨g, cap, cur, h1, h2, h3⟩
    · exact .inl h0
    · exact .inr ⟨g, cap, cur, h1, Nat.le_trans hb h2, h3⟩⟩
theorem bx_step {n g : Nat} {a b c : World} (h : Bx n (· = g) a b) (h2 : b.grownBy c (some g)) (hn : n ≤ b.heap.size) : Bx n (· = g) a c := h.grown h2 hn fun k e => .inr (by cases e; rfl)
/-- A fresh blueprint's cells. -/
def zb (i : Nat) : Value := if i = 3 then .slice none 0 0 else .int .i64 0
theorem zrow (w : World) : (w.alloc (.cells #[.int .i64 0, .int .i64 0, .int .i64 0, .slice none 0 0, .int .i64 0, .int .i64 0, .int .i64 0] 41)).rowIs w.heap.size 41 7 zb :=
  ⟨_, heap_alloc_new w _, rfl, fun i hi => by
    match i, hi with
    | 0, _ => rfl
    | 1, _ => rfl
    | 2, _ => rfl
    | 3, _ => rfl
    | 4, _ => rfl
    | 5, _ => rfl
    | 6, _ => rfl⟩
theorem zrow2 {w : World} {b : Nat} (hb : w.heap.size = b) : (w.alloc (.cells #[.int .i64 0, .int .i64 0, .int .i64 0, .slice none 0 0, .int .i64 0, .int .i64 0, .int .i64 0] 41)).rowIs b 41 7 zb := by subst hb; exact zrow w
theorem row7 {w : World} {b : Nat} {t : TypeId} {f : Nat → Value} (h : w.rowIs b t 7 f) : w.cell? ⟨b, 0, none⟩ = some (f 0) ∧ w.cell? ⟨b, 1, none⟩ = some (f 1) ∧ w.cell? ⟨b, 2, none⟩ = some (f 2) ∧ w.cell? ⟨b, 3, none⟩ = some (f 3) ∧ w.cell? ⟨b, 4, none⟩ = some (f 4) ∧ w.cell? ⟨b, 5, none⟩ = some (f 5) ∧ w.cell? ⟨b, 6, none⟩ = some (f 6) ∧ w.frozen? ⟨b, 0, none⟩ = false ∧ w.frozen? ⟨b, 1, none⟩ = false ∧ w.frozen? ⟨b, 2, none⟩ = false ∧ w.frozen? ⟨b, 3, none⟩ = false ∧ w.frozen? ⟨b, 4, none⟩ = false ∧ w.frozen? ⟨b, 5, none⟩ = false ∧ w.frozen? ⟨b, 6, none⟩ = false :=
  ⟨h.cell (by decide), h.cell (by decide), h.cell (by decide), h.cell (by decide), h.cell (by decide), h.cell (by decide), h.cell (by decide), h.frozen 0, h.frozen 1, h.frozen 2, h.frozen 3, h.frozen 4, h.frozen 5, h.frozen 6⟩
theorem row7z {w : World} {b : Nat} {t : TypeId} (h : w.rowIs b t 7 zb) : w.cell? ⟨b, 0, none⟩ = some (.int .i64 0) ∧ w.cell? ⟨b, 1, none⟩ = some (.int .i64 0) ∧ w.cell? ⟨b, 2, none⟩ = some (.int .i64 0) ∧ w.cell? ⟨b, 3, none⟩ = some (.slice none 0 0) ∧ w.cell? ⟨b, 4, none⟩ = some (.int .i64 0) ∧ w.cell? ⟨b, 5, none⟩ = some (.int .i64 0) ∧ w.cell? ⟨b, 6, none⟩ = some (.int .i64 0) ∧ w.frozen? ⟨b, 0, none⟩ = false ∧ w.frozen? ⟨b, 1, none⟩ = false ∧ w.frozen? ⟨b, 2, none⟩ = false ∧ w.frozen? ⟨b, 3, none⟩ = false ∧ w.frozen? ⟨b, 4, none⟩ = false ∧ w.frozen? ⟨b, 5, none⟩ = false ∧ w.frozen? ⟨b, 6, none⟩ = false := row7 h
/-- A blueprint's cells behind three numbers. -/
def fb (a b c : Int) (i : Nat) : Value := if i = 0 then .int .i64 a else if i = 1 then .int .i64 b else if i = 2 then .int .i64 c else if i = 3 then .slice none 0 0 else .int .i64 0
/-- Where a blueprint stands that was begun. -/
structure BK (n : Nat) (W0 : World) (g gb : Nat) (a b c : Int) (o : Left) (W : World) : Prop where
  rd : Rd 86 QP W g o
  row : W.rowIs gb 41 7 (fb a b c)
  fr : Bx n (· = g) W0 W
  le : n ≤ W.heap.size
  ge : n ≤ gb
theorem bk_row {n : Nat} {W0 : World} {g gb : Nat} {a b c : Int} {o : Left} {W : World} (hr : Rd 86 QP W g o) (hw : W.rowIs gb 41 7 zb) (hf : Bx n (· = g) W0 W) (hl : n ≤ W.heap.size) (hg : n ≤ gb) (hne : gb ≠ g) :
    BK n W0 g gb a b c o (((((((W.setCell ⟨gb, 0, none⟩ (.int .i64 a)).setCell ⟨gb, 1, none⟩ (.int .i64 b)).setCell ⟨gb, 2, none⟩ (.int .i64 c)).setCell ⟨gb, 3, none⟩ (.slice none 0 0)).setCell ⟨gb, 4, none⟩ (.int .i64 0)).setCell ⟨gb, 5, none⟩ (.int .i64 0)).setCell ⟨gb, 6, none⟩ (.int .i64 0)) := by
  refine ⟨((((((hr.set hne _).set hne _).set hne _).set hne _).set hne _).set hne _).set hne _, ?_, ?_, by simpa using hl, hg⟩
  · refine (((((((hw.set 0 _).set 1 _).set 2 _).set 3 _).set 4 _).set 5 _).set 6 _).congr fun i hi => ?_
    match i, hi with
    | 0, _ => rfl
    | 1, _ => rfl
    | 2, _ => rfl
    | 3, _ => rfl
    | 4, _ => rfl
    | 5, _ => rfl
    | 6, _ => rfl
  · exact ((((((hf.set _ _ (.inl hg)).set _ _ (.inl hg)).set _ _ (.inl hg)).set _ _ (.inl hg)).set _ _ (.inl hg)).set _ _ (.inl hg)).set _ _ (.inl hg)
theorem bk_new {n : Nat} {W0 : World} {g : Nat} {a b c : Int} {o : Left} {W : World} (hr : Rd 86 QP W g o) (hf : Bx n (· = g) W0 W) (hl : n ≤ W.heap.size) :
    BK n W0 g W.heap.size a b c o (W.alloc (.cells #[.int .i64 a, .int .i64 b, .int .i64 c, .slice none 0 0, .int .i64 0, .int .i64 0, .int .i64 0] 41)) :=
  ⟨hr.alloc _, ⟨_, heap_alloc_new W _, rfl, fun i hi => by
    match i, hi with
    | 0, _ => rfl
    | 1, _ => rfl
    | 2, _ => rfl
    | 3, _ => rfl
    | 4, _ => rfl
    | 5, _ => rfl
    | 6, _ => rfl⟩, hf.alloc hl _, by simp; omega, hl⟩
/-- The world behind the boxes. -/
def W00 (w : World) (g : Nat) : World := (w.alloc (.cells #[.pointer (some ⟨g, 0, none⟩)] 64)).alloc (.cells #[.int .i64 0, .int .i64 0, .int .i64 0, .slice none 0 0, .int .i64 0, .int .i64 0, .int .i64 0] 41)
theorem own_kind {w : World} {base : Nat} {e t : TypeId} {size n k m : Nat} {v : Value} {xs : List Value} {f : Nat → Value} (h : w.ownsRow base e size v n xs) (hr : w.rowIs k t m f) (hte : t ≠ e) : v.ownBlock ≠ some k := fun e1 => by
  rcases h.2 with ⟨rfl, _⟩ | ⟨g', cap, cur, rfl, _, hg', _⟩
  · cases e1
  · obtain ⟨c0, hc0, _⟩ := hr
    have e2 : g' = k := Option.some.inj e1
    rw [e2, hc0] at hg'
    cases hg'
    exact hte rfl
theorem grw_row (w : World) (g : Nat) (cs : Array Value) : w.grownBy (w.setRow g cs) (some g) := ⟨rfl, rfl, rfl, by simp, fun k _ hne => setRow_other _ _ _ _ fun e => hne (by rw [e])⟩
/-- A blueprint whose needs are read. -/
structure BE (w : World) (g gb : Nat) (a b c d e f : Value) (l : List Stk) (o : Left) (W : World) : Prop where
  rd : Rd 86 QP W g o
  cx : W.cell? ⟨w.heap.size, 0, none⟩ = some (.pointer (some ⟨g, 0, none⟩))
  row : ∃ v, W.rowIs gb 41 7 (fun i => if i = 0 then a else if i = 1 then b else if i = 2 then c else if i = 3 then v else if i = 4 then d else if i = 5 then e else f) ∧ W.ownsRow w.heap.size 38 2 v l.length (stkVals l)
  res : W.rowIs (w.heap.size + 1) 41 7 zb
  fr : Bx w.heap.size (· = g) w W
  le : w.heap.size + 2 ≤ W.heap.size
theorem be_of {w W5 w6 : World} {g gb : Nat} {a b c : Int} {o5 : Left} {s : List Stk × Left} (hgl : g < w.heap.size) (hge : w.heap.size + 2 ≤ gb) (h : BK (w.heap.size + 2) (W00 w g) g gb a b c o5 W5) (hn : NI 86 QP W5 g gb W5.heap.size (fb a b c) s w6) :
    BE w g gb (.int .i64 a) (.int .i64 b) (.int .i64 c) (.int .i64 0) (.int .i64 0) (.int .i64 0) s.1 s.2 w6 := by
  have hl := h.le
  have hl2 := hn.le
  have fr6 : Bx (w.heap.size + 2) (· = g) (W00 w g) w6 := h.fr.trans (hn.fr.mono hl fun k hk e => by rcases e with e | e; exact e; omega)
  have hz : (W00 w g).rowIs (w.heap.size + 1) 41 7 zb := by
    unfold W00
    exact zrow2 (by simp)
  obtain ⟨v, hv, hv2⟩ := hn.row
  refine ⟨hn.rd, fr6.keep (by omega) (by omega) (by unfold W00; go_simp), ⟨v, hv.congr fun i hi => ?_, own_le hv2 (by omega)⟩, hz.of_block (fr6.block _ (by omega) (by omega)), ?_, by omega⟩
  · match i, hi with
    | 0, _ => rfl
    | 1, _ => rfl
    | 2, _ => rfl
    | 3, _ => rfl
    | 4, _ => rfl
    | 5, _ => rfl
    | 6, _ => rfl
  · refine ⟨fr6.os, fr6.tape, fr6.output, Nat.le_trans (by unfold W00; simp; omega) fr6.size, fun k hk hg => (fr6.block k (by omega) hg).trans ?_⟩
    unfold W00
    exact (heap_alloc_old _ _ (by simp; omega)).trans (heap_alloc_old _ _ hk)
theorem be_drew {w W : World} {g gb : Nat} {a b c d e f : Value} {l : List Stk} {o : Left} (h : BE w g gb a b c d e f l o W) : BE w g gb a b c d e f l o W.drew := ⟨h.rd, h.cx, h.row, h.res, h.fr.drew, h.le⟩
theorem be_call {w W W' : World} {g gb : Nat} {a b c d e f : Value} {l : List Stk} {o o' : Left} (hgl : g < w.heap.size) (hge : w.heap.size + 2 ≤ gb) (h : BE w g gb a b c d e f l o W) (hg : W.grownBy W' (some g)) (hr : Rd 86 QP W' g o') : BE w g gb a b c d e f l o' W' := by
  have hl := h.le
  have hs := hg.size
  obtain ⟨v, hv, hv2⟩ := h.row
  exact ⟨hr, cell_grown hg (by omega) (fun e => by have := Option.some.inj e; omega) h.cx, ⟨v, row_grown hv hg (fun e => by have := Option.some.inj e; omega), kept_of hv2 hg hgl⟩, row_grown h.res hg (fun e => by have := Option.some.inj e; omega), bx_step h.fr hg (by omega), by omega⟩
theorem row7b {w : World} {k : Nat} {t : TypeId} {a b c v d e f : Value} (h : w.rowIs k t 7 (fun i => if i = 0 then a else if i = 1 then b else if i = 2 then c else if i = 3 then v else if i = 4 then d else if i = 5 then e else f)) : w.cell? ⟨k, 0, none⟩ = some a ∧ w.cell? ⟨k, 1, none⟩ = some b ∧ w.cell? ⟨k, 2, none⟩ = some c ∧ w.cell? ⟨k, 3, none⟩ = some v ∧ w.cell? ⟨k, 4, none⟩ = some d ∧ w.cell? ⟨k, 5, none⟩ = some e ∧ w.cell? ⟨k, 6, none⟩ = some f ∧ w.frozen? ⟨k, 0, none⟩ = false ∧ w.frozen? ⟨k, 1, none⟩ = false ∧ w.frozen? ⟨k, 2, none⟩ = false ∧ w.frozen? ⟨k, 3, none⟩ = false ∧ w.frozen? ⟨k, 4, none⟩ = false ∧ w.frozen? ⟨k, 5, none⟩ = false ∧ w.frozen? ⟨k, 6, none⟩ = false := row7 h
theorem heap7z {w : World} {k : Nat} {t : TypeId} (h : w.rowIs k t 7 zb) : w.heap[k]? = some (.cells #[.int .i64 0, .int .i64 0, .int .i64 0, .slice none 0 0, .int .i64 0, .int .i64 0, .int .i64 0] t (0, 0)) := by
  obtain ⟨c, hc, hn, hi⟩ := h
  rw [hc]
  congr 2
  apply Array.ext_getElem?
  intro i
  rcases Nat.lt_or_ge i 7 with hlt | hge
  · rw [hi i hlt]
    match i, hlt with
    | 0, _ => rfl
    | 1, _ => rfl
    | 2, _ => rfl
    | 3, _ => rfl
    | 4, _ => rfl
    | 5, _ => rfl
    | 6, _ => rfl
  · rw [Array.getElem?_eq_none (by omega), Array.getElem?_eq_none (by simpa using hge)]
theorem own_one {w : World} {base : Nat} {e : TypeId} {size n : Nat} {v : Value} {xs : List Value} (h : w.ownsRow base e size v n xs) : v.oneCell' = true := by
  rcases h.2 with ⟨rfl, _⟩ | ⟨g', cap, cur, rfl, _⟩ <;> rfl
/-- The last three numbers are put. -/
theorem be_put {w W : World} {g gb : Nat} {a b c d e f d' e' f' : Value} {l : List Stk} {o : Left} (hgl : g < w.heap.size) (hge : w.heap.size + 2 ≤ gb) (h : BE w g gb a b c d e f l o W) : BE w g gb a b c d' e' f' l o (((W.setCell ⟨gb, 4, none⟩ d').setCell ⟨gb, 5, none⟩ e').setCell ⟨gb, 6, none⟩ f') := by
  obtain ⟨v, hv, hv2⟩ := h.row
  have hne : gb ≠ g := by omega
  have hnv : v.ownBlock ≠ some gb := own_kind hv2 hv (by decide)
  refine ⟨((h.rd.set hne _).set hne _).set hne _, ?_, ⟨v, (((hv.set 4 _).set 5 _).set 6 _).congr fun i hi => ?_, ((ownsRow_setCell_other (ownsRow_setCell_other (ownsRow_setCell_other hv2 hnv _) hnv _) hnv _))⟩, ((h.res.setOther (by show _ ≠ gb; omega) _).setOther (by show _ ≠ gb; omega) _).setOther (by show _ ≠ gb; omega) _, ((h.fr.set _ _ (.inl (by show _ ≤ gb; omega))).set _ _ (.inl (by show _ ≤ gb; omega))).set _ _ (.inl (by show _ ≤ gb; omega)), by simpa using h.le⟩
  · rw [World.cell?_setCell_far _ _ _ _ (by show gb ≠ w.heap.size; omega), World.cell?_setCell_far _ _ _ _ (by show gb ≠ w.heap.size; omega), World.cell?_setCell_far _ _ _ _ (by show gb ≠ w.heap.size; omega)]
    exact h.cx
  · match i, hi with
    | 0, _ => rfl
    | 1, _ => rfl
    | 2, _ => rfl
    | 3, _ => rfl
    | 4, _ => rfl
    | 5, _ => rfl
    | 6, _ => rfl
theorem stepN_none (s : List Stk × Left) (h : s.2.isNone = true) : stepN s = s := by unfold stepN; rw [if_pos h]
theorem it_len {α : Type} (f : List α × Left → List α × Left) (hf : ∀ s, (f s).1.length ≤ s.1.length + 1) (k : Nat) (s : List α × Left) : (it f k s).1.length ≤ s.1.length + k := by
  induction k with
  | zero => exact Nat.le_refl _
  | succ k ih => have := hf (it f k s); show (f (it f k s)).1.length ≤ _; omega
theorem stepN_len (s : List Stk × Left) : (stepN s).1.length ≤ s.1.length + 1 := by unfold stepN; split <;> simp
theorem grw_rd {w w1 : World} {g n : Nat} {E : Nat → Prop} {x : Obj} (h : (w.alloc x).grownBy w1 (some g)) (hE : E g) (hn : n ≤ w.heap.size + 1) : Bx n E (w.alloc x) w1 :=
  (Bx.refl n E (w.alloc x)).grown h (by simp; omega) fun k e => .inr (by cases e; exact hE)
set_option maxHeartbeats 1000000 in
theorem needs_any (g gx gb : Nat) (f : Nat → Value) (o : Left) (w : World) (h : Rd 86 QP w g o) (hx : w.cell? ⟨gx, 0, none⟩ = some (.pointer (some ⟨g, 0, none⟩))) (hgx : g ≠ gx) (hgb : g ≠ gb) (hxb : gx ≠ gb) (hxl : gx < w.heap.size) (hb : w.rowIs gb 41 7 (fun i => if i = 3 then .slice none 0 0 else f i)) :
    Calls Try.prog 30 #[.agg #[.pointer (some ⟨g, 0, none⟩)], .int .i64 8, .func (.func 53) #[] #[.pointer (some ⟨gb, 0, none⟩), .pointer (some ⟨gx, 0, none⟩)]] w fun e w' => e = .returned (.tuple #[]) ∧ Hid (NI 86 QP w g gb w.heap.size f (needsT (uintS 8 o).1 (uintS 8 o).2) w') := by
  have hgl := h.lt
  have hbl := hb.lt
  refine Calls.mono (eachN_any _ stepN (NI 86 QP (w.alloc (.cells #[.pointer (some ⟨g, 0, none⟩)] 64)) g gb (w.heap.size + 1) f) 8 g o w (by decide) h ?_ ?_ ?_ ?_ stepN_none (it_len _ stepN_len)) ?_
  · intro w1 o1 hg hr
    exact ⟨hr, ⟨_, row_grown (hb.alloc _) hg (fun e => hgb (Option.some.inj e)), World.ownsRow_nil _ _ _ _⟩, grw_rd hg (.inl rfl) (Nat.le_refl _), by have := hg.size; simp at this; omega⟩
  · intro s w1 hi
    exact hi.rd
  · intro s w1 hi
    exact hi.fr.keep (by omega) (by omega) (by go_simp)
  · intro s w1 hi hs hl
    exact need_any _ g gx gb _ f s w1 hi ((World.cell?_alloc_lt _ _ _ hxl).trans hx) hgx hgb hxb ⟨by omega, by omega, by omega⟩ (Nat.le_trans hl (by decide)) hs
  · rintro e w' ⟨rfl, HI⟩
    have hi := HI.out
    obtain ⟨v, h1, h2⟩ := hi.row
    exact ⟨rfl, hi.rd, ⟨v, h1, own_le h2 (by omega)⟩, ⟨hi.fr.os, hi.fr.tape, hi.fr.output, Nat.le_trans (by simp) hi.fr.size, fun k hk hE => (hi.fr.block k (by omega) hE).trans (heap_alloc_old w _ hk)⟩, by have := hi.le; omega⟩
set_option maxRecDepth 100000 in
set_option maxHeartbeats 4000000 in
theorem blue_any (g : Nat) (o : Left) (w : World) (h : Rd 86 QP w g o) :
    Calls Try.prog 32 #[.agg #[.pointer (some ⟨g, 0, none⟩)]] w fun e w' => ∃ b : BlueIn, e = .returned (.agg b.val) ∧ Hid (flatB b = (blueT o).1) ∧ Hid (Rd 86 QP w' g (blueT o).2) ∧ Hid (Bx w.heap.size (· = g) w w') ∧ Hid (w'.ownsRow w.heap.size 38 2 (.slice b.addr b.needs.length b.cap) b.needs.length (stkVals b.needs)) := by
  have CN : Hid (∀ W o, Rd 86 QP W g o → Calls Try.prog 29 #[.agg #[.pointer (some ⟨g, 0, none⟩)]] W (Rs 86 QP W g (rdI o))) := fun W o h => num_any g o W h
  have HBT : Hid (blueT o = blueT o) := rfl
  obtain ⟨R, hR⟩ : ∃ R, Hid (blueT o = R) := ⟨_, rfl⟩
  rw [hR.out]
  obtain ⟨r1, h1⟩ : ∃ r, Hid (rdI o = r) := ⟨_, rfl⟩
  obtain ⟨r2, h2⟩ : ∃ r, Hid (rdI r1.2 = r) := ⟨_, rfl⟩
  obtain ⟨r3, h3⟩ : ∃ r, Hid (rdI r2.2 = r) := ⟨_, rfl⟩
  have HR := Lib.hid ((h.alloc (.cells #[.pointer (some ⟨g, 0, none⟩)] 64)).alloc (.cells #[.int .i64 0, .int .i64 0, .int .i64 0, .slice none 0 0, .int .i64 0, .int .i64 0, .int .i64 0] 41))
  have hgl := h.lt
  have hne : some g ≠ some w.heap.size := fun e => by cases e; omega
  have hnb : w.heap.size + 1 + 1 ≠ w.heap.size := by omega
  unfold Rs at *
  clear h
  go_enter Try.func32, Try.ntmps32
  go_wp2
  have hs0 : w.heap.size + 2 ≤ ((w.alloc (.cells #[.pointer (some ⟨g, 0, none⟩)] 64)).alloc (.cells #[.int .i64 0, .int .i64 0, .int .i64 0, .slice none 0 0, .int .i64 0, .int .i64 0, .int .i64 0] 41)).heap.size := by simp
  have F0 : Hid (Bx (w.heap.size + 2) (· = g) (W00 w g) ((w.alloc (.cells #[.pointer (some ⟨g, 0, none⟩)] 64)).alloc (.cells #[.int .i64 0, .int .i64 0, .int .i64 0, .slice none 0 0, .int .i64 0, .int .i64 0, .int .i64 0] 41))) := Bx.refl _ _ _
  go_cut [3] (fun v3 wx => ∃ gb, v3 = .pointer (some ⟨gb, 0, none⟩) ∧ Hid (BK (w.heap.size + 2) (W00 w g) g gb r1.1 r2.1 r3.1 r3.2 wx))
  case first =>
    go_region_held3 (fun W' => W'.cell? ⟨w.heap.size, 0, none⟩ = some (.pointer (some ⟨g, 0, none⟩))) (first | (with_reducible assumption) | go_keep) (first
    | (go_at_call 29; (with_reducible refine (CN.out _ _ (Rd.drew HR.out)).mono ?_); rintro e w1 ⟨rfl, HR1, HG1⟩; rw [h1.out] at HR1 ⊢; have s1 : w.heap.size + 2 ≤ w1.heap.size := (by have hz := HG1.out.size; (try simp at hz); omega); have ne1 : w1.heap.size ≠ w.heap.size := (by omega); have F1 := Lib.hid (bx_step F0.out.drew HG1.out (by (try simp); (try omega))); have cx1 := cell_grown HG1.out (by (try simp); omega) hne (by first | (with_reducible assumption) | go_keep); have row1 : Hid True := trivial)
    | (go_at_call 29; (with_reducible refine (CN.out _ _ HR1.out).mono ?_); rintro e w2 ⟨rfl, HR2, HG2⟩; rw [h2.out] at HR2 ⊢; have s2 : w.heap.size + 2 ≤ w2.heap.size := (by have hz := HG2.out.size; (try simp at hz); omega); have ne2 : w2.heap.size ≠ w.heap.size := (by omega); have F2 := Lib.hid (bx_step F1.out HG2.out (by (try simp); (try omega))); have cx2 := cell_grown HG2.out (by (try simp); omega) hne (by first | (with_reducible assumption) | go_keep); have row2 := Lib.hid (row_grown row1.out HG2.out (fun e => by have e2 := Option.some.inj e; (try simp at e2); omega)))
    | (go_at_call 29; (with_reducible refine (CN.out _ _ HR1.out).mono ?_); rintro e w2 ⟨rfl, HR2, HG2⟩; rw [h2.out] at HR2 ⊢; have s2 : w.heap.size + 2 ≤ w2.heap.size := (by have hz := HG2.out.size; (try simp at hz); omega); have ne2 : w2.heap.size ≠ w.heap.size := (by omega); have F2 := Lib.hid (bx_step F1.out HG2.out (by (try simp); (try omega))); have cx2 := cell_grown HG2.out (by (try simp); omega) hne (by first | (with_reducible assumption) | go_keep); have row2 : Hid True := trivial)
    | (go_at_call 29; (with_reducible refine (CN.out _ _ (HR1.out.alloc _)).mono ?_); rintro e w2 ⟨rfl, HR2, HG2⟩; rw [h2.out] at HR2 ⊢; have s2 : w.heap.size + 2 ≤ w2.heap.size := (by have hz := HG2.out.size; (try simp at hz); omega); have ne2 : w2.heap.size ≠ w.heap.size := (by omega); have F2 := Lib.hid (bx_step (F1.out.alloc s1 _) HG2.out (by (try simp); (try omega))); have cx2 := cell_grown HG2.out (by (try simp); omega) hne (by first | (with_reducible assumption) | go_keep); have gl2 := s1; have row2 := Lib.hid (row_grown (zrow _) HG2.out (fun e => by have e2 := Option.some.inj e; (try simp at e2); omega)); generalize w1.heap.size = gb at *)
    | (go_at_call 29; (with_reducible refine (CN.out _ _ HR2.out).mono ?_); rintro e w3 ⟨rfl, HR3, HG3⟩; rw [h3.out] at HR3 ⊢; have s3 : w.heap.size + 2 ≤ w3.heap.size := (by have hz := HG3.out.size; (try simp at hz); omega); have ne3 : w3.heap.size ≠ w.heap.size := (by omega); have F3 := Lib.hid (bx_step F2.out HG3.out (by (try simp); (try omega))); have cx3 := cell_grown HG3.out (by (try simp); omega) hne (by first | (with_reducible assumption) | go_keep); have row3 := Lib.hid (row_grown row2.out HG3.out (fun e => by have e2 := Option.some.inj e; (try simp at e2); omega)); obtain ⟨z0, z1, z2, z3, z4, z5, z6, y0, y1, y2, y3, y4, y5, y6⟩ := row7z row3.out)
    | (go_at_call 29; (with_reducible refine (CN.out _ _ HR2.out).mono ?_); rintro e w3 ⟨rfl, HR3, HG3⟩; rw [h3.out] at HR3 ⊢; have s3 : w.heap.size + 2 ≤ w3.heap.size := (by have hz := HG3.out.size; (try simp at hz); omega); have ne3 : w3.heap.size ≠ w.heap.size := (by omega); have F3 := Lib.hid (bx_step F2.out HG3.out (by (try simp); (try omega))); have cx3 := cell_grown HG3.out (by (try simp); omega) hne (by first | (with_reducible assumption) | go_keep); have row3 : Hid True := trivial)
    | (go_at_call 29; (with_reducible refine (CN.out _ _ (HR2.out.alloc _)).mono ?_); rintro e w3 ⟨rfl, HR3, HG3⟩; rw [h3.out] at HR3 ⊢; have s3 : w.heap.size + 2 ≤ w3.heap.size := (by have hz := HG3.out.size; (try simp at hz); omega); have ne3 : w3.heap.size ≠ w.heap.size := (by omega); have F3 := Lib.hid (bx_step (F2.out.alloc s2 _) HG3.out (by (try simp); (try omega))); have cx3 := cell_grown HG3.out (by (try simp); omega) hne (by first | (with_reducible assumption) | go_keep); have gl3 := s2; have row3 := Lib.hid (row_grown (zrow _) HG3.out (fun e => by have e2 := Option.some.inj e; (try simp at e2); omega)); obtain ⟨z0, z1, z2, z3, z4, z5, z6, y0, y1, y2, y3, y4, y5, y6⟩ := row7z row3.out; generalize w2.heap.size = gb at *)
    | (go_at_call 29; (with_reducible refine (CN.out _ _ (Rd.drew (HR.out.alloc _))).mono ?_); rintro e w1 ⟨rfl, HR1, HG1⟩; rw [h1.out] at HR1 ⊢; have s1 : w.heap.size + 2 ≤ w1.heap.size := (by have hz := HG1.out.size; (try simp at hz); omega); have ne1 : w1.heap.size ≠ w.heap.size := (by omega); have F1 := Lib.hid (bx_step (F0.out.alloc hs0 _).drew HG1.out (by (try simp); (try omega))); have cx1 := cell_grown HG1.out (by (try simp); omega) hne (by first | (with_reducible assumption) | go_keep); have row1 := Lib.hid (row_grown (World.rowIs.drew (zrow2 (b := w.heap.size + 1 + 1) (by simp))) HG1.out (fun e => by have e2 := Option.some.inj e; (try simp at e2); omega))))
    all_goals (go_wp2_with fail; go_meet)
    all_goals first
      | exact ⟨_, rfl, bk_new HR3.out F3.out s3⟩
      | exact ⟨_, rfl, bk_row HR3.out row3.out F3.out s3 (by omega) (by omega)⟩
  case rest =>
    obtain ⟨gb, rfl, HBK⟩ := hcut
    have hge := HBK.out.ge
    have hxb : w.heap.size ≠ gb := by omega
    have hgb : g ≠ gb := by omega
    have hgx : g ≠ w.heap.size := by omega
    have cx5 := HBK.out.fr.keep (k := w.heap.size) (by omega) (fun e => hgx e.symm) (show (W00 w g).cell? ⟨w.heap.size, 0, none⟩ = some (.pointer (some ⟨g, 0, none⟩)) by unfold W00; go_simp)
    have CE := Lib.hid (needs_any g w.heap.size gb (fb r1.1 r2.1 r3.1) r3.2 wc HBK.out.rd cx5 hgx hgb hxb (by have := HBK.out.le; omega) (HBK.out.row.congr fun i hi => by by_cases e : i = 3 <;> simp [e, fb]))
    obtain ⟨NT, hNT⟩ : ∃ NT, Hid (needsT (uintS 8 r3.2).1 (uintS 8 r3.2).2 = NT) := ⟨_, rfl⟩
    rw [hNT.out] at CE
    obtain ⟨r4, h4⟩ : ∃ r, Hid (rdI NT.2 = r) := ⟨_, rfl⟩
    obtain ⟨r5, h5⟩ : ∃ r, Hid (rdI r4.2 = r) := ⟨_, rfl⟩
    obtain ⟨r6, h6⟩ : ∃ r, Hid (rdI r5.2 = r) := ⟨_, rfl⟩
    have HRT : Hid (R = (⟨r1.1, r2.1, r3.1, NT.1, none, 0, r4.1, r5.1, r6.1⟩, r6.2)) := by
      show _ = _
      rw [← hR.out]
      simp only [blueT, blueT1, h1.out, h2.out, h3.out, hNT.out, h4.out, h5.out, h6.out]
    clear F0 hs0 HR
    go_wp2_with (go_at_call 30; (with_reducible refine CE.out.mono ?_); rintro e w6 ⟨rfl, HNI⟩)
    have HE6 := Lib.hid (be_of hgl hge HBK.out HNI.out)
    have cx6 := HE6.out.cx
    have hgb2 : gb ≠ w.heap.size := fun e => hxb e.symm
    clear HNI HBK cx5 CE
    go_cut [] (fun wx => Hid (BE w g gb (.int .i64 r1.1) (.int .i64 r2.1) (.int .i64 r3.1) (.int .i64 r4.1) (.int .i64 r5.1) (.int .i64 r6.1) NT.1 r6.2 wx))
    case first =>
      go_region_held3 (fun W' => W'.cell? ⟨w.heap.size, 0, none⟩ = some (.pointer (some ⟨g, 0, none⟩))) (first | (with_reducible assumption) | go_keep) (first
        | (go_at_call 29; (with_reducible refine (CN.out _ _ (be_drew HE6.out).rd).mono ?_); rintro e w7 ⟨rfl, HR7, HG7⟩; rw [h4.out] at HR7 ⊢; have HE7 := Lib.hid (be_call hgl hge (be_drew HE6.out) HG7.out HR7.out); have cx7 := HE7.out.cx)
        | (go_at_call 29; (with_reducible refine (CN.out _ _ HE7.out.rd).mono ?_); rintro e w8 ⟨rfl, HR8, HG8⟩; rw [h5.out] at HR8 ⊢; have HE8 := Lib.hid (be_call hgl hge HE7.out HG8.out HR8.out); have cx8 := HE8.out.cx)
        | (go_at_call 29; (with_reducible refine (CN.out _ _ HE8.out.rd).mono ?_); rintro e w9 ⟨rfl, HR9, HG9⟩; rw [h6.out] at HR9 ⊢; have HE9 := Lib.hid (be_call hgl hge HE8.out HG9.out HR9.out); have cx9 := HE9.out.cx; obtain ⟨V, hV1, hV2⟩ := HE9.out.row; have HV1 := Lib.hid hV1; have HV2 := Lib.hid hV2; obtain ⟨z0, z1, z2, z3, z4, z5, z6, y0, y1, y2, y3, y4, y5, y6⟩ := row7b hV1; clear hV1 hV2))
      all_goals (go_wp2_with fail; go_meet)
      all_goals exact be_put hgl hge HE9.out
    case rest =>
      have HE := hcut
      clear hcut HE6 cx6
      obtain ⟨V, hV1, hV2⟩ := HE.out.row
      obtain ⟨z0, z1, z2, z3, z4, z5, z6, -⟩ := row7b hV1
      have hg9 := heap7z HE.out.res
      obtain ⟨A9, C9, rfl, -⟩ := stks_of_own hV2
      have HV2 := Lib.hid hV2
      clear hV1 hV2
      go_wp2_with (refine wpList_store_row rfl 41 (.tmp 2) (.tmp 23) rfl (w.heap.size + 1) #[.int .i64 r1.1, .int .i64 r2.1, .int .i64 r3.1, .slice A9 NT.1.length C9, .int .i64 r4.1, .int .i64 r5.1, .int .i64 r6.1] rfl rfl 41 _ hg9 sizeB rfl (by simp [Value.oneCell']) ?_)
      try simp only [Exit.inBlock, Exit.then]
      refine bodyPost_ret (v := .agg #[.int .i64 r1.1, .int .i64 r2.1, .int .i64 r3.1, .slice A9 NT.1.length C9, .int .i64 r4.1, .int .i64 r5.1, .int .i64 r6.1]) (results_cell_row rfl _ _ _ _ _ _ _ (by rfl) (setRow_in hg9) Try.underlying41 rfl sizeB) rfl ⟨⟨r1.1, r2.1, r3.1, NT.1, A9, C9, r4.1, r5.1, r6.1⟩, rfl, ?_, ?_, ?_, ?_⟩
      · show _ = _; rw [HRT.out]; rfl
      · rw [HRT.out]; exact HE.out.rd.grown (grw_row _ _ _) (fun e => by have := Option.some.inj e; omega)
      · exact HE.out.fr.grown (grw_row _ _ _) (by have := HE.out.le; omega) (fun k e => .inl (by have := Option.some.inj e; omega))
      · exact HV2.out.kept (grw_row _ _ _) (.inr (own_kind HV2.out HE.out.res (by decide)))
end Cat
end Go.Proofs.Ytfincohdchnniaa
namespace Go.Proofs.Ytfincohdchnniaa
open Go.RowKit
namespace Cat
open Rec (BlueIn Stk Stks Came bchk inB stkVals stks_of_own stkVals_append)
open Pen (bs bs_append uintB uintS doneS below2 below_al below_dN uint_bounds)
/-- A blueprint's needs, a row of one's own. -/
def NeedRow (w : World) (base : Nat) (b : BlueIn) : Prop := w.ownsRow base 38 2 (.slice b.addr b.needs.length b.cap) b.needs.length (stkVals b.needs)
/-- Blueprints that are read: the reader, the catalogue's cells, and the row of its blueprints. -/
structure BI (T : TypeId) (Q : (Nat → Value) → Left → Prop) (W : World) (g gc base : Nat) (f : Nat → Value) (s : List BlueIn × Left) (w : World) : Prop where
  rd : Rd T Q w g s.2
  row : ∃ v l, w.rowIs gc 27 8 (fun i => if i = 1 then v else f i) ∧ w.ownsRow base 41 7 v l.length (blueVals l) ∧ l.map flatB = s.1 ∧ ∀ b ∈ l, NeedRow w base b
  fr : Bx base (fun k => k = g ∨ k = gc) W w
  le : base ≤ w.heap.size
theorem own_kinds {w : World} {base base' : Nat} {e t : TypeId} {size size' n n' : Nat} {v v' : Value} {xs xs' : List Value} (h : w.ownsRow base e size v n xs) (h' : w.ownsRow base' t size' v' n' xs') (hte : t ≠ e) : v.ownBlock = none ∨ v.ownBlock ≠ v'.ownBlock := by
  rcases h.2 with ⟨rfl, _⟩ | ⟨g', cap, cur, rfl, _, hg', _⟩
  · exact .inl rfl
  · right
    rcases h'.2 with ⟨rfl, _⟩ | ⟨g2, cap2, cur2, rfl, _, hg2, _⟩
    · intro e; cases e
    · intro e1
      have e2 : g' = g2 := Option.some.inj e1
      rw [e2, hg2] at hg'
      cases hg'
      exact hte rfl
theorem own_set {w : World} {base : Nat} {e t : TypeId} {size n k m : Nat} {v : Value} {xs : List Value} {f : Nat → Value} (h : w.ownsRow base e size v n xs) (hr : w.rowIs k t m f) (hte : t ≠ e) (i : Nat) (u : Value) : (w.setCell ⟨k, i, none⟩ u).ownsRow base e size v n xs :=
  ownsRow_setCell_other h (own_kind h hr hte) u
/-- What is there behind one blueprint more. -/
theorem blue_end {T : TypeId} {Q : (Nat → Value) → Left → Prop} {W w w1 w2 : World} {g gc base : Nat} {f : Nat → Value} {l : List BlueIn} {b : BlueIn} {o : Left} {v v' : Value} {L : List BlueIn} (HF : Bx base (fun k => k = g ∨ k = gc) W w) (hle : base ≤ w.heap.size) (hbl : g < base ∧ gc < base) (hgc : g ≠ gc) (G1 : w.grownBy w1 (some g)) (HR : Rd T Q w1 g o)
    (HV : w1.ownsRow base 41 7 v l.length (blueVals l)) (hL : l.map flatB = L) (HN : ∀ b ∈ l, NeedRow w1 base b) (Hb : NeedRow w1 base b) (G2 : w1.grownBy w2 v.ownBlock) (HW : w2.rowIs gc 27 8 (fun i => if i = 1 then v else f i)) (HO : w2.ownsRow base 41 7 v' (l.length + 1) (blueVals l ++ b.val.toList)) :
    BI T Q W g gc base f (L ++ [flatB b], o) (w2.setCell ⟨gc, 1, none⟩ v') := by
  have hs1 := G1.size
  have hs2 := G2.size
  have hvn : ∀ k, v.ownBlock = some k → base ≤ k := fun k e => (HV.lt k e).1
  refine ⟨?_, ⟨v', l ++ [b], ?_, ?_, ?_, ?_⟩, ?_, ?_⟩
  · exact (HR.grown G2 fun e => by have := hvn _ e; omega).set (fun e => hgc e.symm) _
  · exact (HW.set 1 v').congr fun i hi => by by_cases e : i = 1 <;> simp [e]
  · rw [List.length_append, blueVals_snoc]
    exact ownsRow_setCell_below HO hbl.2 v'
  · rw [List.map_append, hL]; rfl
  · intro x hx
    have hx2 : NeedRow w1 base x := by
      rcases List.mem_append.1 hx with h | h
      · exact HN x h
      · rw [List.mem_singleton.1 h]; exact Hb
    exact own_set (hx2.kept G2 (own_kinds hx2 HV (by decide))) HW (by decide) _ _
  · exact ((HF.grown G1 hle fun k e => .inr (.inl (by cases e; rfl))).grown G2 (by omega) fun k e => .inl (hvn k e)).set _ _ (.inr (.inr rfl))
  · simp; omega
theorem blueinfo : (Try.prog.info? 41).map (fun i => (i.zero, i.size, i.bytes)) = some (some (.agg #[.int .i64 0, .int .i64 0, .int .i64 0, .slice none 0 0, .int .i64 0, .int .i64 0, .int .i64 0]), 7, 72) := by kernel_rfl
set_option maxRecDepth 100000 in
set_option maxHeartbeats 4000000 in
theorem blueP_any (W : World) (g gx gc base : Nat) (f : Nat → Value) (s : List BlueIn × Left) (w : World) (h : BI 86 QP W g gc base f s w) (hx : W.cell? ⟨gx, 0, none⟩ = some (.pointer (some ⟨g, 0, none⟩))) (hgx : g ≠ gx) (hgc : g ≠ gc) (hxb : gx ≠ gc) (hbl : g < base ∧ gx < base ∧ gc < base) (hl : s.1.length ≤ 100) (hs : s.2.isNone = false) :
    Calls Try.prog 31 #[.pointer (some ⟨gc, 0, none⟩), .pointer (some ⟨gx, 0, none⟩)] w fun e w' => e = .returned (.tuple #[]) ∧ Hid (BI 86 QP W g gc base f (stepB s) w') := by
  have CB : Hid (∀ W o, Rd 86 QP W g o → Calls Try.prog 32 #[.agg #[.pointer (some ⟨g, 0, none⟩)]] W fun e w' => ∃ b : BlueIn, e = .returned (.agg b.val) ∧ Hid (flatB b = (blueT o).1) ∧ Hid (Rd 86 QP w' g (blueT o).2) ∧ Hid (Bx W.heap.size (· = g) W w') ∧ Hid (w'.ownsRow W.heap.size 38 2 (.slice b.addr b.needs.length b.cap) b.needs.length (stkVals b.needs))) := fun W o h => blue_any g o W h
  obtain ⟨L, o⟩ := s
  have HS : Hid (stepB (L, o) = (L ++ [(blueT o).1], (blueT o).2)) := by show _ = _; unfold stepB; rw [if_neg (by rw [hs]; simp)]
  rw [HS.out]
  obtain ⟨r1, h1⟩ : ∃ r, Hid (blueT o = r) := ⟨_, rfl⟩
  rw [h1.out]
  obtain ⟨i0, hi, hz0, hz1, hz2⟩ := info_parts blueinfo
  have HR := Lib.hid h.rd
  obtain ⟨v, l, hrow, hv, hmap, hneed⟩ := h.row
  have hll : l.length = L.length := by have := congrArg List.length hmap; simpa using this
  have hl2 : l.length ≤ 100 := by rw [hll]; exact hl
  have HV := Lib.hid hv
  have HW := Lib.hid hrow
  have HM := Lib.hid hmap
  have HN := Lib.hid hneed
  have HF := Lib.hid h.fr
  have HLE := Lib.hid h.le
  have cx := HF.out.keep hbl.2.1 (fun e => by rcases e with e | e; exact hgx e.symm; exact hxb e) hx
  have cb := hrow.cell (i := 1) (by decide)
  have fb := hrow.frozen 1
  simp only [if_true] at cb
  have hgl : gx < w.heap.size ∧ gc < w.heap.size := by have := HLE.out; omega
  clear h hv hrow hx hs HS hmap hneed hl hll
  go_enter Try.func31, Try.ntmps31
  go_wp2
  go_region_law (first
    | (go_simp; go_at_call 32; (with_reducible refine (CB.out _ _ (Rd.drew HR.out)).mono ?_); rintro e w1 ⟨b, rfl, HB1, HR1, HX1, HO1⟩; rw [h1.out] at HR1 HB1; have HG1 := Lib.hid (HX1.out.toGrown); have hsz1 : w.heap.size ≤ w1.heap.size := HG1.out.size; have cx1 := cell_grown HG1.out hgl.1 (fun e => hgx (Option.some.inj e)) cx; have cb1 := cell_grown HG1.out hgl.2 (fun e => hgc (Option.some.inj e)) cb; have HW1 := Lib.hid (row_grown (World.rowIs.drew HW.out) HG1.out (fun e => hgc (Option.some.inj e))); have HV1 := Lib.hid (kept_of (Own.ownsRow_drew HV.out) HG1.out hbl.1); have hvb : v.ownBlock ≠ some gc := (fun e => by have := (HV1.out.lt _ e).1; omega); have hyl1 : gc < w1.heap.size := Nat.lt_of_lt_of_le hgl.2 hsz1; unfold BlueIn.val)
    | (refine step_append_lies _ (by rfl) _ _ _ (by rfl) base 41 i0 _ 7 72 Try.underlying22 hi hz0 hz1 hz2 rfl (by omega) v l.length _ (by simp [Act.eval]) (HV1.out.alloc _) ⟨w1.heap.size, 0, none⟩ 1 1 b.val.toList (by simp [Act.eval]) (by rfl) (World.news_of_block (cs := b.val) (t := 41) (fr := (0, 0)) (heap_alloc_new w1 _)) (by unfold BlueIn.val; simp [Value.oneCell']) (by omega) (by unfold maxLen; omega) (by omega) (by simp; have := HLE.out; have := hsz1; omega) (w1.heap.size + 1) (by simp) ?_; intro gg cap9 w3 hown hgr hat hlt; have HO3 := Lib.hid hown; have HG3 := Lib.hid (grw_al _ hgr); have cb3 := cell_grown HG3.out hyl1 hvb cb1; have fb3 := row_grown HW1.out HG3.out hvb; have fb4 := fb3.frozen 1; have HW3 := Lib.hid fb3; clear hown hgr hat hlt fb3))
  all_goals go_end0
  all_goals
    refine ⟨rfl, ?_⟩
    have hend := blue_end (w := w.drew) HF.out.drew HLE.out ⟨hbl.1, hbl.2.2⟩ hgc HG1.out HR1.out HV1.out HM.out (fun x hx => kept_of (Own.ownsRow_drew (HN.out x hx)) HG1.out hbl.1) (own_le HO1.out HLE.out) HG3.out HW3.out HO3.out
    rw [HB1.out] at hend
    exact hend
end Cat
end Go.Proofs.Ytfincohdchnniaa
namespace Go.Proofs.Ytfincohdchnniaa
open Go.RowKit
namespace Cat
open Rec (BlueIn Stk Stks Came bchk inB stkVals stks_of_own stkVals_append)
open Pen (bs bs_append uintB uintS doneS below2 below_al below_dN uint_bounds)
theorem stepB_none (s : List BlueIn × Left) (h : s.2.isNone = true) : stepB s = s := by unfold stepB; rw [if_pos h]
theorem stepB_len (s : List BlueIn × Left) : (stepB s).1.length ≤ s.1.length + 1 := by unfold stepB; split <;> simp
theorem stepY_none (s : List BayIn × Left) (h : s.2.isNone = true) : stepY s = s := by unfold stepY; rw [if_pos h]
theorem stepY_len (s : List BayIn × Left) : (stepY s).1.length ≤ s.1.length + 1 := by unfold stepY; split <;> simp
set_option maxHeartbeats 1000000 in
theorem blues_any (g gx gc : Nat) (f : Nat → Value) (o : Left) (w : World) (h : Rd 86 QP w g o) (hx : w.cell? ⟨gx, 0, none⟩ = some (.pointer (some ⟨g, 0, none⟩))) (hgx : g ≠ gx) (hgc : g ≠ gc) (hxb : gx ≠ gc) (hxl : gx < w.heap.size) (hb : w.rowIs gc 27 8 (fun i => if i = 1 then .slice none 0 0 else f i)) :
    Calls Try.prog 30 #[.agg #[.pointer (some ⟨g, 0, none⟩)], .int .i64 16, .func (.func 31) #[] #[.pointer (some ⟨gc, 0, none⟩), .pointer (some ⟨gx, 0, none⟩)]] w fun e w' => e = .returned (.tuple #[]) ∧ Hid (BI 86 QP w g gc w.heap.size f (bluesT (uintS 16 o).1 (uintS 16 o).2) w') := by
  have hgl := h.lt
  have hbl := hb.lt
  refine Calls.mono (eachB_any _ stepB (BI 86 QP (w.alloc (.cells #[.pointer (some ⟨g, 0, none⟩)] 64)) g gc (w.heap.size + 1) f) 16 g o w (by decide) h ?_ ?_ ?_ ?_ stepB_none (it_len _ stepB_len)) ?_
  · intro w1 o1 hg hr
    exact ⟨hr, ⟨_, [], row_grown (hb.alloc _) hg (fun e => hgc (Option.some.inj e)), World.ownsRow_nil _ _ _ _, rfl, fun _ hx => by cases hx⟩, grw_rd hg (.inl rfl) (Nat.le_refl _), by have := hg.size; simp at this; omega⟩
  · intro s w1 hi
    exact hi.rd
  · intro s w1 hi
    exact hi.fr.keep (by omega) (by omega) (by go_simp)
  · intro s w1 hi hs hl
    exact blueP_any _ g gx gc _ f s w1 hi ((World.cell?_alloc_lt _ _ _ hxl).trans hx) hgx hgc hxb ⟨by omega, by omega, by omega⟩ (Nat.le_trans hl (by decide)) hs
  · rintro e w' ⟨rfl, HI⟩
    have hi := HI.out
    obtain ⟨v, l, h1, h2, h3, h4⟩ := hi.row
    exact ⟨rfl, hi.rd, ⟨v, l, h1, own_le h2 (by omega), h3, fun b hb => own_le (h4 b hb) (by omega)⟩, ⟨hi.fr.os, hi.fr.tape, hi.fr.output, Nat.le_trans (by simp) hi.fr.size, fun k hk hE => (hi.fr.block k (by omega) hE).trans (heap_alloc_old w _ hk)⟩, by have := hi.le; omega⟩
/-- Bays that are read. -/
structure YI (T : TypeId) (Q : (Nat → Value) → Left → Prop) (W : World) (g gc base : Nat) (f : Nat → Value) (s : List BayIn × Left) (w : World) : Prop where
  rd : Rd T Q w g s.2
  row : ∃ v, w.rowIs gc 27 8 (fun i => if i = 3 then v else f i) ∧ w.ownsRow base 50 4 v s.1.length (bayVals s.1)
  fr : Bx base (fun k => k = g ∨ k = gc) W w
  le : base ≤ w.heap.size
theorem bay_end {T : TypeId} {Q : (Nat → Value) → Left → Prop} {W w w1 w2 w4 w5 w3 : World} {g gc base : Nat} {f : Nat → Value} {l : List BayIn} {b : BayIn} {o : Left} {v v' : Value} (HF : Bx base (fun k => k = g ∨ k = gc) W w) (hle : base ≤ w.heap.size) (hbl : g < base ∧ gc < base) (hgc : g ≠ gc) (G1 : w.grownBy w1 (some g)) (G2 : w1.grownBy w2 (some g)) (G4 : w2.grownBy w4 (some g)) (G5 : w4.grownBy w5 (some g)) (HR : Rd T Q w5 g o)
    (HV : w5.ownsRow base 50 4 v l.length (bayVals l)) (G3 : w5.grownBy w3 v.ownBlock) (HW : w3.rowIs gc 27 8 (fun i => if i = 3 then v else f i)) (HO : w3.ownsRow base 50 4 v' (l.length + 1) (bayVals l ++ b.val.toList)) :
    YI T Q W g gc base f (l ++ [b], o) (w3.setCell ⟨gc, 3, none⟩ v') := by
  have hs1 := G1.size
  have hs2 := G2.size
  have hs4 := G4.size
  have hs5 := G5.size
  have hs3 := G3.size
  have hvn : ∀ k, v.ownBlock = some k → base ≤ k := fun k e => (HV.lt k e).1
  refine ⟨?_, ⟨v', ?_, ?_⟩, ?_, ?_⟩
  · exact (HR.grown G3 fun e => by have := hvn _ e; omega).set (fun e => hgc e.symm) _
  · exact (HW.set 3 v').congr fun i hi => by by_cases e : i = 3 <;> simp [e]
  · rw [List.length_append, bayVals_snoc]
    exact ownsRow_setCell_below HO hbl.2 v'
  · exact (((((HF.grown G1 hle fun k e => .inr (.inl (by cases e; rfl))).grown G2 (by omega) fun k e => .inr (.inl (by cases e; rfl))).grown G4 (by omega) fun k e => .inr (.inl (by cases e; rfl))).grown G5 (by omega) fun k e => .inr (.inl (by cases e; rfl))).grown G3 (by omega) fun k e => .inl (hvn k e)).set _ _ (.inr (.inr rfl))
  · simp; omega
theorem bayinfo : (Try.prog.info? 50).map (fun i => (i.zero, i.size, i.bytes)) = some (some (.agg #[.int .i64 0, .int .i64 0, .int .i64 0, .int .i64 0]), 4, 32) := by kernel_rfl
/-- What is known at each call of a reader. -/
structure YC (g gx gc base : Nat) (f : Nat → Value) (v : Value) (l : List BayIn) (o : Left) (w : World) : Prop where
  rd : Rd 86 QP w g o
  cx : w.cell? ⟨gx, 0, none⟩ = some (.pointer (some ⟨g, 0, none⟩))
  row : w.rowIs gc 27 8 (fun i => if i = 3 then v else f i)
  own : w.ownsRow base 50 4 v l.length (bayVals l)
theorem YC.call {g gx gc base : Nat} {f : Nat → Value} {v : Value} {l : List BayIn} {o o' : Left} {w w' : World} (h : YC g gx gc base f v l o w) (hg : w.grownBy w' (some g)) (hr : Rd 86 QP w' g o') (hgx : g ≠ gx) (hgc : g ≠ gc) (hgb : g < base) (hxl : gx < w.heap.size) : YC g gx gc base f v l o' w' :=
  ⟨hr, cell_grown hg hxl (fun e => hgx (Option.some.inj e)) h.cx, row_grown h.row hg (fun e => hgc (Option.some.inj e)), kept_of h.own hg hgb⟩
theorem YC.drew {g gx gc base : Nat} {f : Nat → Value} {v : Value} {l : List BayIn} {o : Left} {w : World} (h : YC g gx gc base f v l o w) : YC g gx gc base f v l o w.drew := ⟨h.rd, h.cx, h.row, h.own⟩
theorem YC.cb {g gx gc base : Nat} {f : Nat → Value} {v : Value} {l : List BayIn} {o : Left} {w : World} (h : YC g gx gc base f v l o w) : w.cell? ⟨gc, 3, none⟩ = some v := by
  have := h.row.cell (i := 3) (by decide)
  simpa using this
set_option maxRecDepth 100000 in
set_option maxHeartbeats 4000000 in
theorem bayP_any (W : World) (g gx gc base : Nat) (f : Nat → Value) (s : List BayIn × Left) (w : World) (h : YI 86 QP W g gc base f s w) (hx : W.cell? ⟨gx, 0, none⟩ = some (.pointer (some ⟨g, 0, none⟩))) (hgx : g ≠ gx) (hgc : g ≠ gc) (hxb : gx ≠ gc) (hbl : g < base ∧ gx < base ∧ gc < base) (hl : s.1.length ≤ 100) (hs : s.2.isNone = false) :
    Calls Try.prog 33 #[.pointer (some ⟨gc, 0, none⟩), .pointer (some ⟨gx, 0, none⟩)] w fun e w' => e = .returned (.tuple #[]) ∧ Hid (YI 86 QP W g gc base f (stepY s) w') := by
  have CN : Hid (∀ W o, Rd 86 QP W g o → Calls Try.prog 29 #[.agg #[.pointer (some ⟨g, 0, none⟩)]] W (Rs 86 QP W g (rdI o))) := fun W o h => num_any g o W h
  obtain ⟨l, o⟩ := s
  obtain ⟨r1, h1⟩ : ∃ r, Hid (rdI o = r) := ⟨_, rfl⟩
  obtain ⟨r2, h2⟩ : ∃ r, Hid (rdI r1.2 = r) := ⟨_, rfl⟩
  obtain ⟨r3, h3⟩ : ∃ r, Hid (rdI r2.2 = r) := ⟨_, rfl⟩
  obtain ⟨r4, h4⟩ : ∃ r, Hid (rdI r3.2 = r) := ⟨_, rfl⟩
  have HS : Hid (stepY (l, o) = (l ++ [⟨r1.1, r2.1, r3.1, r4.1⟩], r4.2)) := by show _ = _; unfold stepY bayT; rw [if_neg (by rw [hs]; simp)]; simp only [h1.out, h2.out, h3.out, h4.out]
  rw [HS.out]
  obtain ⟨i0, hi, hz0, hz1, hz2⟩ := info_parts bayinfo
  obtain ⟨v, hrow, hv⟩ := h.row
  have HF := Lib.hid h.fr
  have HLE := Lib.hid h.le
  have cx := HF.out.keep hbl.2.1 (fun e => by rcases e with e | e; exact hgx e.symm; exact hxb e) hx
  have HC := Lib.hid (YC.mk (gx := gx) h.rd cx hrow hv)
  have cb := HC.out.cb
  have hgl : gx < w.heap.size ∧ gc < w.heap.size := by have := HLE.out; omega
  have hgc2 : gc ≠ gx := fun e => hxb e.symm
  unfold Rs at *
  clear h hv hrow hx hs HS
  go_enter Try.func33, Try.ntmps33
  go_wp2
  have hH0 := (show _ ∧ _ from ⟨HC.out.drew.cx, HC.out.drew.cb⟩)
  refine Ord.wp_region_U (fun W' => W'.cell? ⟨gx, 0, none⟩ = some (.pointer (some ⟨g, 0, none⟩)) ∧ W'.cell? ⟨gc, 3, none⟩ = some v) [14] (by kernel_rfl) ?_
  have hHeld := hH0
  refine Ord.wpAnyU_take (i := 0) (v := ?_) rfl (by kernel_rfl) (by kernel_rfl) (by kernel_rfl) (by kernel_rfl) (by kernel_rfl) (by kernel_rfl) (by kernel_rfl) (fun _ _ _ h => h) (Or.inl ⟨by rfl, ?_⟩) hHeld ?_
  rotate_left
  · intro w hSw; (try dsimp only at hSw); go_simp; (try with_reducible rfl)
  try simp only [Act.put, List.setIfInBounds_toArray, List.set_cons_zero, List.set_cons_succ]
  refine Ord.wpAnyU_take (i := 1) (v := ?_) rfl (by kernel_rfl) (by kernel_rfl) (by kernel_rfl) (by kernel_rfl) (by kernel_rfl) (by kernel_rfl) (by kernel_rfl) (fun _ _ _ h => h) (Or.inl ⟨by rfl, ?_⟩) hHeld ?_
  rotate_left
  · intro w hSw; (try dsimp only at hSw); go_simp; (try with_reducible rfl)
  try simp only [Act.put, List.setIfInBounds_toArray, List.set_cons_zero, List.set_cons_succ]
  refine Ord.wpAnyU_take (i := 2) (v := ?_) rfl (by kernel_rfl) (by kernel_rfl) (by kernel_rfl) (by kernel_rfl) (by kernel_rfl) (by kernel_rfl) (by kernel_rfl) (fun _ _ _ h => h) (Or.inl ⟨by rfl, ?_⟩) hHeld ?_
  rotate_left
  · intro w hSw; (try dsimp only at hSw); go_simp; (try with_reducible rfl)
  try simp only [Act.put, List.setIfInBounds_toArray, List.set_cons_zero, List.set_cons_succ]
  refine Ord.wpAnyU_take (i := 4) (v := ?_) rfl (by kernel_rfl) (by kernel_rfl) (by kernel_rfl) (by kernel_rfl) (by kernel_rfl) (by kernel_rfl) (by kernel_rfl) (fun _ _ _ h => h) (Or.inl ⟨by rfl, ?_⟩) hHeld ?_
  rotate_left
  · intro w hSw; (try dsimp only at hSw); go_simp; (try with_reducible rfl)
  try simp only [Act.put, List.setIfInBounds_toArray, List.set_cons_zero, List.set_cons_succ]
  refine Ord.wpAnyU_take (i := 6) (v := ?_) rfl (by kernel_rfl) (by kernel_rfl) (by kernel_rfl) (by kernel_rfl) (by kernel_rfl) (by kernel_rfl) (by kernel_rfl) (fun _ _ _ h => h) (Or.inl ⟨by rfl, ?_⟩) hHeld ?_
  rotate_left
  · intro w hSw; (try dsimp only at hSw); go_simp; (try with_reducible rfl)
  try simp only [Act.put, List.setIfInBounds_toArray, List.set_cons_zero, List.set_cons_succ]
  refine Ord.wpAnyU_take (i := 8) (v := ?_) rfl (by kernel_rfl) (by kernel_rfl) (by kernel_rfl) (by kernel_rfl) (by kernel_rfl) (by kernel_rfl) (by kernel_rfl) (fun _ _ _ h => h) (Or.inl ⟨by rfl, ?_⟩) hHeld ?_
  rotate_left
  · intro w hSw; (try dsimp only at hSw); go_simp; (try with_reducible rfl)
  try simp only [Act.put, List.setIfInBounds_toArray, List.set_cons_zero, List.set_cons_succ]
  refine Ord.wpAnyU_one (i := 3) (by kernel_rfl) rfl (fun K hK => ?_)
  go_simp
  go_wp2_with (go_at_call 29; (with_reducible refine (CN.out _ _ HC.out.drew.rd).mono ?_); rintro e w1 ⟨rfl, HR1, HG1⟩; rw [h1.out] at HR1 ⊢; have HC1 := Lib.hid (HC.out.drew.call HG1.out HR1.out hgx hgc hbl.1 hgl.1); have hxl1 := Nat.lt_of_lt_of_le hgl.1 HG1.out.size)
  refine hK.out _ _ (fun _ => (show _ ∧ _ from ⟨HC1.out.cx, HC1.out.cb⟩)) ?_
  clear hK K
  try simp only [Act.put, List.setIfInBounds_toArray, List.set_cons_zero, List.set_cons_succ]
  refine Ord.wpAnyU_one (i := 5) (by kernel_rfl) rfl (fun K hK => ?_)
  go_simp
  go_wp2_with (go_at_call 29; (with_reducible refine (CN.out _ _ HC1.out.rd).mono ?_); rintro e w2 ⟨rfl, HR2, HG2⟩; rw [h2.out] at HR2 ⊢; have HC2 := Lib.hid (HC1.out.call HG2.out HR2.out hgx hgc hbl.1 hxl1); have hxl2 := Nat.lt_of_lt_of_le hxl1 HG2.out.size)
  refine hK.out _ _ (fun _ => (show _ ∧ _ from ⟨HC2.out.cx, HC2.out.cb⟩)) ?_
  clear hK K
  try simp only [Act.put, List.setIfInBounds_toArray, List.set_cons_zero, List.set_cons_succ]
  refine Ord.wpAnyU_one (i := 7) (by kernel_rfl) rfl (fun K hK => ?_)
  go_simp
  go_wp2_with (go_at_call 29; (with_reducible refine (CN.out _ _ HC2.out.rd).mono ?_); rintro e w4 ⟨rfl, HR4, HG4⟩; rw [h3.out] at HR4 ⊢; have HC4 := Lib.hid (HC2.out.call HG4.out HR4.out hgx hgc hbl.1 hxl2); have hxl4 := Nat.lt_of_lt_of_le hxl2 HG4.out.size)
  refine hK.out _ _ (fun _ => (show _ ∧ _ from ⟨HC4.out.cx, HC4.out.cb⟩)) ?_
  clear hK K
  try simp only [Act.put, List.setIfInBounds_toArray, List.set_cons_zero, List.set_cons_succ]
  refine Ord.wpAnyU_one (i := 9) (by kernel_rfl) rfl (fun K hK => ?_)
  go_simp
  go_wp2_with (go_at_call 29; (with_reducible refine (CN.out _ _ HC4.out.rd).mono ?_); rintro e w5 ⟨rfl, HR5, HG5⟩; rw [h4.out] at HR5 ⊢; have HC5 := Lib.hid (HC4.out.call HG5.out HR5.out hgx hgc hbl.1 hxl4); have hxl5 := Nat.lt_of_lt_of_le hxl4 HG5.out.size)
  refine hK.out _ _ (fun _ => (show _ ∧ _ from ⟨HC5.out.cx, HC5.out.cb⟩)) ?_
  clear hK K
  try simp only [Act.put, List.setIfInBounds_toArray, List.set_cons_zero, List.set_cons_succ]
  have hvb : v.ownBlock ≠ some gc := (fun e => by have := (HC5.out.own.lt _ e).1; omega)
  have hvx : v.ownBlock ≠ some gx := (fun e => by have := (HC5.out.own.lt _ e).1; omega)
  have hle5 : base ≤ w5.heap.size := (by have a0 := HLE.out; have a1 := HG1.out.size; have a2 := HG2.out.size; have a4 := HG4.out.size; have a5 := HG5.out.size; exact Nat.le_trans a0 (Nat.le_trans a1 (Nat.le_trans a2 (Nat.le_trans a4 a5))))
  have hyl5 : gc < w5.heap.size := Nat.lt_of_lt_of_le hbl.2.2 hle5
  refine Ord.wpAnyU_one (i := 10) (by kernel_rfl) rfl (fun K hK => ?_)
  go_simp
  refine hK.out _ _ (fun _ => (show _ ∧ _ from ⟨HC5.out.cx, HC5.out.cb⟩)) ?_
  clear hK K
  try simp only [Act.put, List.setIfInBounds_toArray, List.set_cons_zero, List.set_cons_succ]
  refine Ord.wpAnyU_one (i := 11) (by kernel_rfl) rfl (fun K hK => ?_)
  go_simp
  refine hK.out _ _ (fun _ => (show _ ∧ _ from ⟨(World.cell?_alloc_lt _ _ _ hxl5).trans HC5.out.cx, (World.cell?_alloc_lt _ _ _ hyl5).trans HC5.out.cb⟩)) ?_
  clear hK K
  try simp only [Act.put, List.setIfInBounds_toArray, List.set_cons_zero, List.set_cons_succ]
  refine Ord.wpAnyU_one (i := 12) (by kernel_rfl) rfl (fun K hK => ?_)
  refine step_append_lies _ (by rfl) _ _ _ (by rfl) base 50 i0 _ 4 32 Try.underlying23 hi hz0 hz1 hz2 rfl (by omega) v l.length _ (by simp [Act.eval]) (HC5.out.own.alloc _) ⟨w5.heap.size, 0, none⟩ 1 1 [.int .i64 r1.1, .int .i64 r2.1, .int .i64 r3.1, .int .i64 r4.1] (by simp [Act.eval]) (by rfl) (World.news_of_block (cs := #[.int .i64 r1.1, .int .i64 r2.1, .int .i64 r3.1, .int .i64 r4.1]) (t := 50) (fr := (0, 0)) (heap_alloc_new w5 _)) (by simp [Value.oneCell']) (by omega) (by unfold maxLen; omega) (by omega) (by simp; omega) (w5.heap.size + 1) (by simp) ?_; intro gg cap9 w3 hown hgr hat hlt; have HO3 := Lib.hid hown; have HG3 := Lib.hid (grw_al _ hgr); have cb3 := cell_grown HG3.out hyl5 hvb HC5.out.cb; have cx3 := cell_grown HG3.out hxl5 hvx HC5.out.cx; have fb3 := row_grown HC5.out.row HG3.out hvb; have fb4 := fb3.frozen 3; have HW3 := Lib.hid fb3; clear hown hgr hat hlt fb3
  try go_simp
  refine hK.out _ _ (fun _ => (show _ ∧ _ from ⟨cx3, cb3⟩)) ?_
  clear hK K
  try simp only [Act.put, List.setIfInBounds_toArray, List.set_cons_zero, List.set_cons_succ]
  refine Ord.wpAnyU_one (i := 13) (by kernel_rfl) rfl (fun K hK => ?_)
  go_simp
  refine hK.out _ _ (fun _ => (show _ ∧ _ from ⟨cx3, cb3⟩)) ?_
  clear hK K
  refine Ord.wpAnyU_one (i := 14) (by kernel_rfl) rfl (fun K hK => ?_)
  go_simp
  refine hK.out _ _ (fun h => by cases h) ?_
  clear hK K
  try simp only [Act.put, List.setIfInBounds_toArray, List.set_cons_zero, List.set_cons_succ]
  refine Ord.wpAnyU_done (by kernel_rfl) ?_ _
  go_wp2
  go_end0
  exact ⟨rfl, bay_end (w := w.drew) (b := ⟨r1.1, r2.1, r3.1, r4.1⟩) HF.out.drew HLE.out ⟨hbl.1, hbl.2.2⟩ hgc HG1.out HG2.out HG4.out HG5.out HR5.out HC5.out.own HG3.out HW3.out HO3.out⟩
set_option maxHeartbeats 1000000 in
theorem bays_any (g gx gc : Nat) (f : Nat → Value) (o : Left) (w : World) (h : Rd 86 QP w g o) (hx : w.cell? ⟨gx, 0, none⟩ = some (.pointer (some ⟨g, 0, none⟩))) (hgx : g ≠ gx) (hgc : g ≠ gc) (hxb : gx ≠ gc) (hxl : gx < w.heap.size) (hb : w.rowIs gc 27 8 (fun i => if i = 3 then .slice none 0 0 else f i)) :
    Calls Try.prog 30 #[.agg #[.pointer (some ⟨g, 0, none⟩)], .int .i64 8, .func (.func 33) #[] #[.pointer (some ⟨gc, 0, none⟩), .pointer (some ⟨gx, 0, none⟩)]] w fun e w' => e = .returned (.tuple #[]) ∧ Hid (YI 86 QP w g gc w.heap.size f (baysT (uintS 8 o).1 (uintS 8 o).2) w') := by
  have hgl := h.lt
  have hbl := hb.lt
  refine Calls.mono (eachY_any _ stepY (YI 86 QP (w.alloc (.cells #[.pointer (some ⟨g, 0, none⟩)] 64)) g gc (w.heap.size + 1) f) 8 g o w (by decide) h ?_ ?_ ?_ ?_ stepY_none (it_len _ stepY_len)) ?_
  · intro w1 o1 hg hr
    exact ⟨hr, ⟨_, row_grown (hb.alloc _) hg (fun e => hgc (Option.some.inj e)), World.ownsRow_nil _ _ _ _⟩, grw_rd hg (.inl rfl) (Nat.le_refl _), by have := hg.size; simp at this; omega⟩
  · intro s w1 hi
    exact hi.rd
  · intro s w1 hi
    exact hi.fr.keep (by omega) (by omega) (by go_simp)
  · intro s w1 hi hs hl
    exact bayP_any _ g gx gc _ f s w1 hi ((World.cell?_alloc_lt _ _ _ hxl).trans hx) hgx hgc hxb ⟨by omega, by omega, by omega⟩ (Nat.le_trans hl (by decide)) hs
  · rintro e w' ⟨rfl, HI⟩
    have hi := HI.out
    obtain ⟨v, h1, h2⟩ := hi.row
    exact ⟨rfl, hi.rd, ⟨v, h1, own_le h2 (by omega)⟩, ⟨hi.fr.os, hi.fr.tape, hi.fr.output, Nat.le_trans (by simp) hi.fr.size, fun k hk hE => (hi.fr.block k (by omega) hE).trans (heap_alloc_old w _ hk)⟩, by have := hi.le; omega⟩
end Cat
end Go.Proofs.Ytfincohdchnniaa
namespace Go.Proofs.Ytfincohdchnniaa
open Go.RowKit
namespace Cat
open Rec (BlueIn Stk Stks Came bchk inB stkVals stks_of_own stkVals_append)
open Pen (bs bs_append uintB uintS doneS below2 below_al below_dN uint_bounds)
def c8 (a b c d e f g h : Value) (i : Nat) : Value := if i = 0 then a else if i = 1 then b else if i = 2 then c else if i = 3 then d else if i = 4 then e else if i = 5 then f else if i = 6 then g else h
/-- A catalogue that is being read. -/
structure TK (T : TypeId) (Q : (Nat → Value) → Left → Prop) (w : World) (g gc : Nat) (f : Nat → Value) (v u : Value) (l : List BlueIn) (ys : List BayIn) (o : Left) (W : World) : Prop where
  rd : Rd T Q W g o
  row : W.rowIs gc 27 8 f
  ob : W.ownsRow w.heap.size 41 7 v l.length (blueVals l)
  on : ∀ b ∈ l, NeedRow W w.heap.size b
  oy : W.ownsRow w.heap.size 50 4 u ys.length (bayVals ys)
  res : W.rowIs w.heap.size 27 8 (c8 (.int .i64 0) (.slice none 0 0) (.int .i64 0) (.slice none 0 0) (.int .i64 0) (.int .i64 0) (.int .i64 0) (.int .i64 0))
  fr : Below w.heap.size w W
  gg : w.heap.size < g
  ge : w.heap.size < gc ∧ g ≠ gc
theorem below_grown {n : Nat} {w W W' : World} {o : Option Nat} (h : Below n w W) (hg : W.grownBy W' o) (hn : n ≤ W.heap.size) (ho : ∀ k, o = some k → n ≤ k) : Below n w W' :=
  ⟨hg.os.trans h.os, hg.tape.trans h.tape, hg.output.trans h.output, Nat.le_trans h.size hg.size, fun k hk => (hg.block k (Nat.lt_of_lt_of_le hk hn) fun e => by have := ho k e.symm; omega).trans (h.block k hk)⟩
theorem own_rd {T : TypeId} {Q : (Nat → Value) → Left → Prop} {W W' : World} {g : Nat} {o : Left} {base : Nat} {e : TypeId} {size n : Nat} {v : Value} {xs : List Value} (h : W.ownsRow base e size v n xs) (hr : Rd T Q W g o) (hte : T ≠ e) (hg : W.grownBy W' (some g)) : W'.ownsRow base e size v n xs := by
  obtain ⟨f, hf, _⟩ := hr
  exact h.kept hg (.inr (own_kind h hf hte))
section
variable {T : TypeId} {Q : (Nat → Value) → Left → Prop} {w W W' : World} {g gc : Nat} {f : Nat → Value} {v u : Value} {l : List BlueIn} {ys : List BayIn} {o o' : Left}
theorem TK.call (h : TK T Q w g gc f v u l ys o W) (hg : W.grownBy W' (some g)) (hr : Rd T Q W' g o') (h1 : T ≠ 41) (h2 : T ≠ 38) (h3 : T ≠ 50) : TK T Q w g gc f v u l ys o' W' :=
  ⟨hr, row_grown h.row hg (fun e => h.ge.2 (Option.some.inj e)), own_rd h.ob h.rd h1 hg, fun b hb => own_rd (h.on b hb) h.rd h2 hg, own_rd h.oy h.rd h3 hg, row_grown h.res hg (fun e => by have := Option.some.inj e; have := h.gg; omega), below_grown h.fr hg h.fr.size (fun k e => by have := Option.some.inj e; have := h.gg; omega), h.gg, h.ge⟩
theorem TK.set (h : TK T Q w g gc f v u l ys o W) (i : Nat) (x : Value) : TK T Q w g gc (fun j => if j = i then x else f j) v u l ys o (W.setCell ⟨gc, i, none⟩ x) :=
  ⟨h.rd.set (fun e => h.ge.2 e.symm) _, h.row.set i x, own_set h.ob h.row (by decide) _ _, fun b hb => own_set (h.on b hb) h.row (by decide) _ _, own_set h.oy h.row (by decide) _ _, h.res.setOther (by show _ ≠ gc; have := h.ge; omega) _, below_grown (o := some gc) h.fr ⟨rfl, rfl, rfl, by simp, fun k _ hne => Below.heap_setCell _ _ _ _ (fun e => hne (by rw [e]))⟩ h.fr.size (fun k e => by have := Option.some.inj e; have := h.ge; omega), h.gg, h.ge⟩
theorem TK.congr {f2 : Nat → Value} (h : TK T Q w g gc f v u l ys o W) (e : ∀ i, i < 8 → f i = f2 i) : TK T Q w g gc f2 v u l ys o W :=
  ⟨h.rd, h.row.congr e, h.ob, h.on, h.oy, h.res, h.fr, h.gg, h.ge⟩
theorem TK.drew (h : TK T Q w g gc f v u l ys o W) : TK T Q w g gc f v u l ys o W.drew := ⟨h.rd, h.row, h.ob, h.on, h.oy, h.res, ⟨h.fr.os, h.fr.tape, h.fr.output, h.fr.size, h.fr.block⟩, h.gg, h.ge⟩
/-- Blueprints are read. -/
theorem TK.blues {s : List BlueIn × Left} {f2 : Nat → Value} (h : TK T Q w g gc f v u l ys o W) (hu : u = .slice none 0 0) (hy : ys = []) (hn : BI T Q W g gc W.heap.size f2 s W') : ∃ v' l', TK T Q w g gc (fun i => if i = 1 then v' else f2 i) v' u l' ys s.2 W' ∧ l'.map flatB = s.1 := by
  obtain ⟨v', l', r1, r2, r3, r4⟩ := hn.row
  have hs := h.fr.size
  subst hu
  subst hy
  exact ⟨v', l', ⟨hn.rd, r1, own_le r2 hs, fun b hb => own_le (r4 b hb) hs, World.ownsRow_nil _ _ _ _, h.res.of_block (hn.fr.block _ h.res.lt (fun e => by have := h.gg; have := h.ge; omega)), ⟨hn.fr.os.trans h.fr.os, hn.fr.tape.trans h.fr.tape, hn.fr.output.trans h.fr.output, Nat.le_trans hs hn.fr.size, fun k hk => (hn.fr.block k (by omega) (fun e => by have := h.gg; have := h.ge; omega)).trans (h.fr.block k hk)⟩, h.gg, h.ge⟩, r3⟩
/-- Bays are read. -/
theorem TK.bays {s : List BayIn × Left} {f2 : Nat → Value} (h : TK T Q w g gc f v u l ys o W) (hT : T ≠ 41 ∧ T ≠ 38) (hn : YI T Q W g gc W.heap.size f2 s W') : ∃ u', TK T Q w g gc (fun i => if i = 3 then u' else f2 i) v u' l s.1 s.2 W' := by
  obtain ⟨u', r1, r2⟩ := hn.row
  have hs := h.fr.size
  have hk : ∀ {e : TypeId} {size n : Nat} {v : Value} {xs : List Value}, W.ownsRow w.heap.size e size v n xs → T ≠ e → 27 ≠ e → W'.ownsRow w.heap.size e size v n xs := fun {e size n v xs} ho h1 h2 => by
    refine ⟨ho.1, ?_⟩
    rcases ho.2 with h0 | ⟨b, cap, cur, e1, e2, e3, e4⟩
    · exact .inl h0
    · obtain ⟨f0, hf0, _⟩ := h.rd
      have n1 : b ≠ g := fun e => by have := own_kind ho hf0 h1; rw [e1, e] at this; exact this rfl
      have n2 : b ≠ gc := fun e => by have := own_kind ho h.row h2; rw [e1, e] at this; exact this rfl
      exact .inr ⟨b, cap, cur, e1, e2, (hn.fr.block b (Array.getElem?_eq_some_iff.1 e3).1 (fun e => by rcases e with e | e; exact n1 e; exact n2 e)).trans e3, e4⟩
  exact ⟨u', hn.rd, r1, hk h.ob hT.1 (by decide), fun b hb => hk (h.on b hb) hT.2 (by decide), own_le r2 hs, h.res.of_block (hn.fr.block _ h.res.lt (fun e => by have := h.gg; have := h.ge; omega)), ⟨hn.fr.os.trans h.fr.os, hn.fr.tape.trans h.fr.tape, hn.fr.output.trans h.fr.output, Nat.le_trans hs hn.fr.size, fun k hk => (hn.fr.block k (by omega) (fun e => by have := h.gg; have := h.ge; omega)).trans (h.fr.block k hk)⟩, h.gg, h.ge⟩
/-- A cell of an older block stays. -/
theorem TK.other (h : TK T Q w g gc f v u l ys o W) : w.heap.size ≤ W.heap.size := h.fr.size
end
theorem row8 {w : World} {b : Nat} {t : TypeId} {f : Nat → Value} (h : w.rowIs b t 8 f) : w.cell? ⟨b, 0, none⟩ = some (f 0) ∧ w.cell? ⟨b, 1, none⟩ = some (f 1) ∧ w.cell? ⟨b, 2, none⟩ = some (f 2) ∧ w.cell? ⟨b, 3, none⟩ = some (f 3) ∧ w.cell? ⟨b, 4, none⟩ = some (f 4) ∧ w.cell? ⟨b, 5, none⟩ = some (f 5) ∧ w.cell? ⟨b, 6, none⟩ = some (f 6) ∧ w.cell? ⟨b, 7, none⟩ = some (f 7) :=
  ⟨h.cell (by decide), h.cell (by decide), h.cell (by decide), h.cell (by decide), h.cell (by decide), h.cell (by decide), h.cell (by decide), h.cell (by decide)⟩
theorem heap8 {w : World} {k : Nat} {t : TypeId} {f : Nat → Value} (h : w.rowIs k t 8 f) : w.heap[k]? = some (.cells #[f 0, f 1, f 2, f 3, f 4, f 5, f 6, f 7] t (0, 0)) := by
  obtain ⟨c, hc, hn, hi⟩ := h
  rw [hc]
  congr 2
  apply Array.ext_getElem?
  intro i
  rcases Nat.lt_or_ge i 8 with hlt | hge
  · rw [hi i hlt]
    match i, hlt with
    | 0, _ => rfl
    | 1, _ => rfl
    | 2, _ => rfl
    | 3, _ => rfl
    | 4, _ => rfl
    | 5, _ => rfl
    | 6, _ => rfl
    | 7, _ => rfl
  · rw [Array.getElem?_eq_none (by omega), Array.getElem?_eq_none (by simpa using hge)]
/-- Whoever reads a catalogue: it is a catalogue that came. -/
theorem TK.lies {T : TypeId} {Q : (Nat → Value) → Left → Prop} {w W : World} {g gc : Nat} {f : Nat → Value} {v u : Value} {l : List BlueIn} {ys : List BayIn} {o : Left} (h : TK T Q w g gc f v u l ys o W) : ∃ ba bc ya yc, v = .slice ba l.length bc ∧ u = .slice ya ys.length yc ∧ Blues W ba l ∧ Bays W ya ys ∧ ∀ i, i < l.length → Stks W (l.getD i nob).addr (l.getD i nob).needs := by
  obtain ⟨ba, bc, e1, h1⟩ := blues_of_own h.ob
  obtain ⟨ya, yc, e2, h2⟩ := bays_of_own h.oy
  refine ⟨ba, bc, ya, yc, e1, e2, h1, h2, fun i hi => ?_⟩
  have hm : l.getD i nob ∈ l := by rw [List.getD_eq_getElem?_getD, List.getElem?_eq_getElem hi]; exact List.getElem_mem hi
  obtain ⟨a, cap, e, hs⟩ := stks_of_own (h.on _ hm)
  cases e
  exact hs
end Cat
end Go.Proofs.Ytfincohdchnniaa
namespace Go.Proofs.Ytfincohdchnniaa
open Go.RowKit
namespace Cat
open Rec (BlueIn Stk Stks Came bchk inB stkVals stks_of_own stkVals_append)
open Pen (bs bs_append uintB uintS doneS below2 below_al below_dN uint_bounds)
theorem row_c8 {w : World} {b : Nat} {t : TypeId} {f : Nat → Value} (h : w.rowIs b t 8 f) : w.rowIs b t 8 (c8 (f 0) (f 1) (f 2) (f 3) (f 4) (f 5) (f 6) (f 7)) := h.congr fun i hi => by
  match i, hi with
  | 0, _ => rfl
  | 1, _ => rfl
  | 2, _ => rfl
  | 3, _ => rfl
  | 4, _ => rfl
  | 5, _ => rfl
  | 6, _ => rfl
  | 7, _ => rfl
theorem TK.flat {T : TypeId} {Q : (Nat → Value) → Left → Prop} {w W : World} {g gc : Nat} {f : Nat → Value} {v u : Value} {l : List BlueIn} {ys : List BayIn} {o : Left} (h : TK T Q w g gc f v u l ys o W) : TK T Q w g gc (c8 (f 0) (f 1) (f 2) (f 3) (f 4) (f 5) (f 6) (f 7)) v u l ys o W :=
  ⟨h.rd, row_c8 h.row, h.ob, h.on, h.oy, h.res, h.fr, h.gg, h.ge⟩
theorem lies_of {W : World} {B : Nat} {v u : Value} {l : List BlueIn} {ys : List BayIn} (ob : W.ownsRow B 41 7 v l.length (blueVals l)) (on : ∀ b ∈ l, NeedRow W B b) (oy : W.ownsRow B 50 4 u ys.length (bayVals ys)) : ∃ ba bc ya yc, v = .slice ba l.length bc ∧ u = .slice ya ys.length yc ∧ Blues W ba l ∧ Bays W ya ys ∧ ∀ i, i < l.length → Stks W (l.getD i nob).addr (l.getD i nob).needs := by
  obtain ⟨ba, bc, e1, h1⟩ := blues_of_own ob
  obtain ⟨ya, yc, e2, h2⟩ := bays_of_own oy
  refine ⟨ba, bc, ya, yc, e1, e2, h1, h2, fun i hi => ?_⟩
  have hm : l.getD i nob ∈ l := by rw [List.getD_eq_getElem?_getD, List.getElem?_eq_getElem hi]; exact List.getElem_mem hi
  obtain ⟨a, cap, e, hs⟩ := stks_of_own (on _ hm)
  cases e
  exact hs
theorem grw_below2 {w w1 : World} (h : Below w.heap.size w w1) : w.grownBy w1 none := ⟨h.os, h.tape, h.output, h.size, fun k hk _ => h.block k hk⟩
/-- What was read is there behind all. -/
theorem TK.fin {T : TypeId} {Q : (Nat → Value) → Left → Prop} {w W W' : World} {g gc : Nat} {f : Nat → Value} {ba ya : Option Addr} {bc yc : Nat} {l : List BlueIn} {ys : List BayIn} {o : Left} (h : TK T Q w g gc f (.slice ba l.length bc) (.slice ya ys.length yc) l ys o W) (hb : Below W.heap.size W W') (cs : Array Value) :
    (Blues (W'.setRow w.heap.size cs) ba l ∧ Bays (W'.setRow w.heap.size cs) ya ys ∧ ∀ i, i < l.length → Stks (W'.setRow w.heap.size cs) (l.getD i nob).addr (l.getD i nob).needs) ∧ Below w.heap.size w (W'.setRow w.heap.size cs) := by
  have hr : W'.rowIs w.heap.size 27 8 _ := h.res.of_block (hb.block _ h.res.lt)
  have hk : ∀ {e : TypeId} {size n : Nat} {v : Value} {xs : List Value}, W.ownsRow w.heap.size e size v n xs → 27 ≠ e → (W'.setRow w.heap.size cs).ownsRow w.heap.size e size v n xs := fun {e size n v xs} ho h2 => by
    have h1 : W'.ownsRow w.heap.size e size v n xs := ho.kept (row := none) (grw_below2 hb) (by cases hv : v.ownBlock <;> simp)
    exact h1.kept (grw_row _ _ _) (.inr (own_kind h1 hr h2))
  obtain ⟨a1, a2, a3, a4, e1, e2, h1, h2, h3⟩ := lies_of (hk h.ob (by decide)) (fun b hb => hk (h.on b hb) (by decide)) (hk h.oy (by decide))
  cases e1
  cases e2
  exact ⟨⟨h1, h2, h3⟩, below_setRow (h.fr.trans (hb.mono h.fr.size)) (Nat.le_refl _) cs⟩
theorem c8_three (a b c d e f g h : Value) (i : Nat) (hi : i < 8) : c8 a b c d e f g h i = if i = 3 then d else c8 a b c d e f g h i := by
  by_cases e : i = 3
  · subst e; rfl
  · rw [if_neg e]
theorem zc8 {w : World} {b : Nat} (hb : w.heap.size = b) (n : Int) : (w.alloc (.cells #[.int .i64 n, .slice none 0 0, .int .i64 0, .slice none 0 0, .int .i64 0, .int .i64 0, .int .i64 0, .int .i64 0] 27)).rowIs b 27 8 (c8 (.int .i64 n) (.slice none 0 0) (.int .i64 0) (.slice none 0 0) (.int .i64 0) (.int .i64 0) (.int .i64 0) (.int .i64 0)) := by
  subst hb
  exact ⟨_, heap_alloc_new w _, rfl, fun i hi => by
    match i, hi with
    | 0, _ => rfl
    | 1, _ => rfl
    | 2, _ => rfl
    | 3, _ => rfl
    | 4, _ => rfl
    | 5, _ => rfl
    | 6, _ => rfl
    | 7, _ => rfl⟩
/-- The catalogue's cells are made. -/
theorem tk_new {w w1 w2 : World} {n : Int} {o : Left} {b : Obj} (HB : Below (w.alloc (.cells #[.int .i64 0, .slice none 0 0, .int .i64 0, .slice none 0 0, .int .i64 0, .int .i64 0, .int .i64 0, .int .i64 0] 27)).heap.size (w.alloc (.cells #[.int .i64 0, .slice none 0 0, .int .i64 0, .slice none 0 0, .int .i64 0, .int .i64 0, .int .i64 0, .int .i64 0] 27)) w1) (HR : Rd 86 QP w2 (w.heap.size + 1) o) (HG : (w1.alloc b).grownBy w2 (some (w.heap.size + 1))) (hs : w.heap.size + 2 ≤ w1.heap.size) :
    TK 86 QP w (w.heap.size + 1) w2.heap.size (c8 (.int .i64 n) (.slice none 0 0) (.int .i64 0) (.slice none 0 0) (.int .i64 0) (.int .i64 0) (.int .i64 0) (.int .i64 0)) (.slice none 0 0) (.slice none 0 0) [] [] o (w2.alloc (.cells #[.int .i64 n, .slice none 0 0, .int .i64 0, .slice none 0 0, .int .i64 0, .int .i64 0, .int .i64 0, .int .i64 0] 27)) := by
  have hs2 := HG.size
  simp only [World.size_alloc] at hs2
  have hr1 : w1.rowIs w.heap.size 27 8 (c8 (.int .i64 0) (.slice none 0 0) (.int .i64 0) (.slice none 0 0) (.int .i64 0) (.int .i64 0) (.int .i64 0) (.int .i64 0)) := (zc8 (w := w) rfl 0).of_block (HB.block _ (by simp))
  have hr2 := row_grown (hr1.alloc b) HG (fun e => by have := Option.some.inj e; omega)
  refine ⟨HR.alloc _, zc8 rfl n, World.ownsRow_nil _ _ _ _, (fun b hb => by cases hb), World.ownsRow_nil _ _ _ _, hr2.alloc _, ?_, by omega, by omega, by omega⟩
  refine below_al (below_grown (o := some (w.heap.size + 1)) (below_al ((below_al (Below.refl w.heap.size w) _).trans (HB.mono (by simp))) b) HG ?_ fun k e => by cases e; omega) _
  simp; omega
theorem sizeC : (Try.prog.info? 27).map (·.size) = some 8 := by kernel_rfl
set_option maxRecDepth 100000 in
set_option maxHeartbeats 8000000 in
theorem take_any (s : ByteArray) (hs : s.size ≤ 1000000000) (w : World) :
    Calls Try.prog 10 #[.string s] w fun e w' => ∃ c : CatIn, e = .returned (.tuple #[.agg c.val, .int .i64 (takeV s.data.toList).2]) ∧ Hid (flatC c = (takeV s.data.toList).1) ∧ Hid (Lies w' c) ∧ Hid (Below w.heap.size w w') := by
  have CW : Hid (∀ (W : World) (g : Nat), W.heap.size = g → Calls Try.prog 28 #[.string s] W fun e w' => e = .returned (.pointer (some ⟨g, 0, none⟩)) ∧ Hid (Rd 86 QP w' g (some s.data.toList)) ∧ Hid (Below W.heap.size W w')) := fun W g hg => by
    subst hg
    exact pNew_any s hs W
  have CN : Hid (∀ W g o, Rd 86 QP W g o → Calls Try.prog 29 #[.agg #[.pointer (some ⟨g, 0, none⟩)]] W (Rs 86 QP W g (rdI o))) := fun W g o h => num_any g o W h
  have CD : Hid (∀ W g o, Rd 86 QP W g o → Calls Try.prog 34 #[.pointer (some ⟨g, 0, none⟩)] W fun e w' => e = .returned (.bool (doneS o)) ∧ W = w') := fun W g o h => pDone_any g o W h
  obtain ⟨o0, h0⟩ : ∃ o0 : Left, Hid (some s.data.toList = o0) := ⟨_, rfl⟩
  obtain ⟨r1, h1⟩ : ∃ r, Hid (rdI o0 = r) := ⟨_, rfl⟩
  obtain ⟨BT, hBT⟩ : ∃ r, Hid (bluesT (uintS 16 r1.2).1 (uintS 16 r1.2).2 = r) := ⟨_, rfl⟩
  obtain ⟨r2, h2⟩ : ∃ r, Hid (rdI BT.2 = r) := ⟨_, rfl⟩
  obtain ⟨YT, hYT⟩ : ∃ r, Hid (baysT (uintS 8 r2.2).1 (uintS 8 r2.2).2 = r) := ⟨_, rfl⟩
  obtain ⟨r3, h3⟩ : ∃ r, Hid (rdI YT.2 = r) := ⟨_, rfl⟩
  obtain ⟨r4, h4⟩ : ∃ r, Hid (rdI r3.2 = r) := ⟨_, rfl⟩
  obtain ⟨r5, h5⟩ : ∃ r, Hid (rdI r4.2 = r) := ⟨_, rfl⟩
  obtain ⟨r6, h6⟩ : ∃ r, Hid (rdI r5.2 = r) := ⟨_, rfl⟩
  have HT : Hid (takeT o0 = (⟨r1.1, BT.1, none, 0, r2.1, YT.1, none, 0, r3.1, r4.1, r5.1, r6.1⟩, r6.2)) := by
    show _ = _
    simp only [takeT, takeT1, takeT2, h1.out, hBT.out, h2.out, hYT.out, h3.out, h4.out, h5.out, h6.out]
  have HV : Hid (takeV s.data.toList = if doneS r6.2 && decide (chkC (takeT o0).1 = 0) then ((takeT o0).1, 0) else (noc, 2)) := by
    show _ = _
    unfold takeV
    rw [h0.out, HT.out]
  obtain ⟨TV, hTV⟩ : ∃ r, Hid (takeV s.data.toList = r) := ⟨_, rfl⟩
  rw [hTV.out] at HV ⊢
  rw [h0.out] at CW
  unfold Rs at *
  clear hs
  go_enter Try.func10, Try.ntmps10
  go_wp2_with (first
    | (go_at_call 28; (with_reducible refine (CW.out _ (w.heap.size + 1) (by simp)).mono ?_); rintro e w1 ⟨rfl, HR1, HB1⟩; have s1 : w.heap.size + 2 ≤ w1.heap.size := HR1.out.lt)
    | (go_at_call 29; (with_reducible refine (CN.out _ _ _ (HR1.out.alloc _)).mono ?_); rintro e w2 ⟨rfl, HR2, HG2⟩; rw [h1.out] at HR2 ⊢; have s2 : w1.heap.size + 1 ≤ w2.heap.size := (by have := HG2.out.size; simpa using this); have l12 : w1.heap.size < w2.heap.size := (by omega); have cx2 := cell_grown (i := 0) HG2.out (g := w1.heap.size) (by simp) (fun e => by have := Option.some.inj e; omega) (v := .pointer (some ⟨w.heap.size + 1, 0, none⟩)) (by go_simp); have TK3 := Lib.hid (tk_new (n := r1.1) HB1.out HR2.out HG2.out s1))
    | (go_at_call 30; (with_reducible refine (blues_any (w.heap.size + 1) w1.heap.size w2.heap.size (c8 (.int .i64 r1.1) (.slice none 0 0) (.int .i64 0) (.slice none 0 0) (.int .i64 0) (.int .i64 0) (.int .i64 0) (.int .i64 0)) r1.2 _ TK3.out.rd ((World.cell?_alloc_lt _ _ _ (by show w1.heap.size < _; omega)).trans cx2) (by omega) (by omega) (by omega) (by simp; omega) (TK3.out.row.congr (fun i hi => by by_cases e : i = 3 <;> by_cases e1 : i = 1 <;> simp [e, e1, c8]))).mono ?_); rintro e w4 ⟨rfl, HBI⟩; rw [hBT.out] at HBI; (obtain ⟨v4, l4, tk4, hm4⟩ := TK3.out.blues rfl rfl HBI.out); have TK4 : Hid (TK 86 QP w (w.heap.size + 1) w2.heap.size (c8 (.int .i64 r1.1) v4 (.int .i64 0) (.slice none 0 0) (.int .i64 0) (.int .i64 0) (.int .i64 0) (.int .i64 0)) v4 (.slice none 0 0) l4 [] BT.2 w4) := tk4.flat; have n21 : w2.heap.size ≠ w1.heap.size := (by omega); have HM4 := Lib.hid hm4; have cx4 := HBI.out.fr.keep (k := w1.heap.size) (i := 0) (by simp; omega) (fun e => by omega) ((World.cell?_alloc_lt _ _ _ (by show w1.heap.size < _; omega)).trans cx2); have s4 : w2.heap.size + 1 ≤ w4.heap.size := (by have := HBI.out.le; simpa using this); clear tk4 hm4)
    | (go_at_call 29; (with_reducible refine (CN.out _ _ _ TK4.out.rd).mono ?_); rintro e w5 ⟨rfl, HR5, HG5⟩; rw [h2.out] at HR5 ⊢; have s5 : w4.heap.size ≤ w5.heap.size := HG5.out.size; have TK5 := Lib.hid (TK4.out.call HG5.out HR5.out (by decide) (by decide) (by decide)); have cx5 := cell_grown HG5.out (by omega) (fun e => by have := Option.some.inj e; omega) cx4; have k5 := TK5.out.row.cell (i := 2) (by decide); have fz5 := TK5.out.row.frozen 2; have TK5s : Hid (TK 86 QP w (w.heap.size + 1) w2.heap.size (c8 (.int .i64 r1.1) v4 (.int .i64 r2.1) (.slice none 0 0) (.int .i64 0) (.int .i64 0) (.int .i64 0) (.int .i64 0)) v4 (.slice none 0 0) l4 [] r2.2 (w5.setCell ⟨w2.heap.size, 2, none⟩ (.int .i64 r2.1))) := (TK5.out.set 2 (.int .i64 r2.1)).flat; have cx5s := (World.cell?_setCell_far w5 ⟨w2.heap.size, 2, none⟩ ⟨w1.heap.size, 0, none⟩ (.int .i64 r2.1) n21).trans cx5)
    | (go_at_call 30; (with_reducible refine (bays_any (w.heap.size + 1) w1.heap.size w2.heap.size (c8 (.int .i64 r1.1) v4 (.int .i64 r2.1) (.slice none 0 0) (.int .i64 0) (.int .i64 0) (.int .i64 0) (.int .i64 0)) r2.2 _ TK5s.out.rd cx5s (by omega) (by omega) (by omega) (by simp; omega) (TK5s.out.row.congr (c8_three _ _ _ _ _ _ _ _))).mono ?_); rintro e w6 ⟨rfl, HYI⟩; rw [hYT.out] at HYI; (obtain ⟨u6, tk6⟩ := TK5s.out.bays ⟨by decide, by decide⟩ HYI.out); have TK6 : Hid (TK 86 QP w (w.heap.size + 1) w2.heap.size (c8 (.int .i64 r1.1) v4 (.int .i64 r2.1) u6 (.int .i64 0) (.int .i64 0) (.int .i64 0) (.int .i64 0)) v4 u6 l4 YT.1 YT.2 w6) := tk6.flat; have cx6 := HYI.out.fr.keep (k := w1.heap.size) (i := 0) (by simp; omega) (fun e => by omega) cx5s; have s6 : w5.heap.size ≤ w6.heap.size := (by have := HYI.out.le; simpa using this); clear tk6)
    | (go_at_call 29; (with_reducible refine (CN.out _ _ _ TK6.out.rd).mono ?_); rintro e w7 ⟨rfl, HR7, HG7⟩; rw [h3.out] at HR7 ⊢; have s7 : w6.heap.size ≤ w7.heap.size := HG7.out.size; have TK7 := Lib.hid (TK6.out.call HG7.out HR7.out (by decide) (by decide) (by decide)); have cx7 := cell_grown HG7.out (by omega) (fun e => by have := Option.some.inj e; omega) cx6; have k7 := TK7.out.row.cell (i := 4) (by decide); have fz7 := TK7.out.row.frozen 4; have TK7s : Hid (TK 86 QP w (w.heap.size + 1) w2.heap.size (c8 (.int .i64 r1.1) v4 (.int .i64 r2.1) u6 (.int .i64 r3.1) (.int .i64 0) (.int .i64 0) (.int .i64 0)) v4 u6 l4 YT.1 r3.2 (w7.setCell ⟨w2.heap.size, 4, none⟩ (.int .i64 r3.1))) := (TK7.out.set 4 (.int .i64 r3.1)).flat; have cx7s := (World.cell?_setCell_far w7 ⟨w2.heap.size, 4, none⟩ ⟨w1.heap.size, 0, none⟩ (.int .i64 r3.1) n21).trans cx7))
  have s8 : w1.heap.size < (w7.setCell ⟨w2.heap.size, 4, none⟩ (.int .i64 r3.1)).heap.size := by simp; omega
  have HM : Hid (l4.map flatB = BT.1) := HM4
  clear HR1 HB1 HR2 HG2 TK3 cx2 HBI TK4 cx4 HM4 HR5 HG5 TK5 cx5 k5 fz5 TK5s cx5s HYI TK6 cx6 HR7 HG7 TK7 cx7 k7 fz7 s2 s4 s5 s6 s7
  generalize w7.setCell ⟨w2.heap.size, 4, none⟩ (.int .i64 r3.1) = w8 at *
  have cx8 := cx7s
  have TK8 := TK7s
  have hH0 := cx8
  refine Ord.wp_region_U (fun W' => W'.cell? ⟨w1.heap.size, 0, none⟩ = some (.pointer (some ⟨w.heap.size + 1, 0, none⟩))) [8] (by kernel_rfl) ?_
  have hHeld := hH0
  refine Ord.wpAnyU_take (i := 0) (v := ?_) rfl (by kernel_rfl) (by kernel_rfl) (by kernel_rfl) (by kernel_rfl) (by kernel_rfl) (by kernel_rfl) (by kernel_rfl) (fun _ _ _ h => h) (Or.inl ⟨by rfl, ?_⟩) hHeld ?_
  rotate_left
  · intro w hSw; (try dsimp only at hSw); go_simp; (try with_reducible rfl)
  try simp only [Act.put, List.setIfInBounds_toArray, List.set_cons_zero, List.set_cons_succ]
  refine Ord.wpAnyU_take (i := 2) (v := ?_) rfl (by kernel_rfl) (by kernel_rfl) (by kernel_rfl) (by kernel_rfl) (by kernel_rfl) (by kernel_rfl) (by kernel_rfl) (fun _ _ _ h => h) (Or.inl ⟨by rfl, ?_⟩) hHeld ?_
  rotate_left
  · intro w hSw; (try dsimp only at hSw); go_simp; (try with_reducible rfl)
  try simp only [Act.put, List.setIfInBounds_toArray, List.set_cons_zero, List.set_cons_succ]
  refine Ord.wpAnyU_take (i := 4) (v := ?_) rfl (by kernel_rfl) (by kernel_rfl) (by kernel_rfl) (by kernel_rfl) (by kernel_rfl) (by kernel_rfl) (by kernel_rfl) (fun _ _ _ h => h) (Or.inl ⟨by rfl, ?_⟩) hHeld ?_
  rotate_left
  · intro w hSw; (try dsimp only at hSw); go_simp; (try with_reducible rfl)
  try simp only [Act.put, List.setIfInBounds_toArray, List.set_cons_zero, List.set_cons_succ]
  refine Ord.wpAnyU_one (i := 1) (by kernel_rfl) rfl (fun K hK => ?_)
  go_simp
  go_wp2_with (go_at_call 29; (with_reducible refine (CN.out _ _ _ TK8.out.drew.rd).mono ?_); rintro e w9 ⟨rfl, HR9, HG9⟩; rw [h4.out] at HR9 ⊢; have TK9 := Lib.hid (TK8.out.drew.call HG9.out HR9.out (by decide) (by decide) (by decide)); have s9 : w1.heap.size < w9.heap.size := Nat.lt_of_lt_of_le s8 HG9.out.size; have cx9 := cell_grown HG9.out s8 (fun e => by have := Option.some.inj e; omega) cx8)
  refine hK.out _ _ (fun _ => cx9) ?_
  clear hK K
  try simp only [Act.put, List.setIfInBounds_toArray, List.set_cons_zero, List.set_cons_succ]
  refine Ord.wpAnyU_one (i := 3) (by kernel_rfl) rfl (fun K hK => ?_)
  go_simp
  go_wp2_with (go_at_call 29; (with_reducible refine (CN.out _ _ _ TK9.out.rd).mono ?_); rintro e w10 ⟨rfl, HR10, HG10⟩; rw [h5.out] at HR10 ⊢; have TK10 := Lib.hid (TK9.out.call HG10.out HR10.out (by decide) (by decide) (by decide)); have s10 : w1.heap.size < w10.heap.size := Nat.lt_of_lt_of_le s9 HG10.out.size; have cx10 := cell_grown HG10.out s9 (fun e => by have := Option.some.inj e; omega) cx9)
  refine hK.out _ _ (fun _ => cx10) ?_
  clear hK K
  try simp only [Act.put, List.setIfInBounds_toArray, List.set_cons_zero, List.set_cons_succ]
  refine Ord.wpAnyU_one (i := 5) (by kernel_rfl) rfl (fun K hK => ?_)
  go_simp
  go_wp2_with (go_at_call 29; (with_reducible refine (CN.out _ _ _ TK10.out.rd).mono ?_); rintro e w11 ⟨rfl, HR11, HG11⟩; rw [h6.out] at HR11 ⊢; have TK11 := Lib.hid (TK10.out.call HG11.out HR11.out (by decide) (by decide) (by decide)); have s11 : w1.heap.size < w11.heap.size := Nat.lt_of_lt_of_le s10 HG11.out.size; have cx11 := cell_grown HG11.out s10 (fun e => by have := Option.some.inj e; omega) cx10; have q5 := TK11.out.row.cell (i := 5) (by decide); have q6 := TK11.out.row.cell (i := 6) (by decide); have q7 := TK11.out.row.cell (i := 7) (by decide); have y5 := TK11.out.row.frozen 5; have y6 := TK11.out.row.frozen 6; have y7 := TK11.out.row.frozen 7)
  refine hK.out _ _ (fun _ => cx11) ?_
  clear hK K
  try simp only [Act.put, List.setIfInBounds_toArray, List.set_cons_zero, List.set_cons_succ]
  refine Ord.wpAnyU_one (i := 6) (by kernel_rfl) rfl (fun K hK => ?_)
  go_simp
  refine hK.out _ _ (fun _ => cx11) ?_
  clear hK K
  try simp only [Act.put, List.setIfInBounds_toArray, List.set_cons_zero, List.set_cons_succ]
  refine Ord.wpAnyU_one (i := 7) (by kernel_rfl) rfl (fun K hK => ?_)
  go_simp
  refine hK.out _ _ (fun _ => cx11) ?_
  clear hK K
  try simp only [Act.put, List.setIfInBounds_toArray, List.set_cons_zero, List.set_cons_succ]
  refine Ord.wpAnyU_one (i := 8) (by kernel_rfl) rfl (fun K hK => ?_)
  go_simp
  refine hK.out _ _ (fun h => by cases h) ?_
  clear hK K
  try simp only [Act.put, List.setIfInBounds_toArray, List.set_cons_zero, List.set_cons_succ]
  refine Ord.wpAnyU_done (by kernel_rfl) ?_ _
  have TK12 : Hid (TK 86 QP w (w.heap.size + 1) w2.heap.size (c8 (.int .i64 r1.1) v4 (.int .i64 r2.1) u6 (.int .i64 r3.1) (.int .i64 r4.1) (.int .i64 r5.1) (.int .i64 r6.1)) v4 u6 l4 YT.1 r6.2 (((w11.setCell ⟨w2.heap.size, 5, none⟩ (.int .i64 r4.1)).setCell ⟨w2.heap.size, 6, none⟩ (.int .i64 r5.1)).setCell ⟨w2.heap.size, 7, none⟩ (.int .i64 r6.1))) := (((TK11.out.set 5 (.int .i64 r4.1)).set 6 (.int .i64 r5.1)).set 7 (.int .i64 r6.1)).flat
  have cx12 : (((w11.setCell ⟨w2.heap.size, 5, none⟩ (.int .i64 r4.1)).setCell ⟨w2.heap.size, 6, none⟩ (.int .i64 r5.1)).setCell ⟨w2.heap.size, 7, none⟩ (.int .i64 r6.1)).cell? ⟨w1.heap.size, 0, none⟩ = some (.pointer (some ⟨w.heap.size + 1, 0, none⟩)) :=
    (World.cell?_setCell_far _ ⟨w2.heap.size, 7, none⟩ ⟨w1.heap.size, 0, none⟩ _ n21).trans ((World.cell?_setCell_far _ ⟨w2.heap.size, 6, none⟩ ⟨w1.heap.size, 0, none⟩ _ n21).trans ((World.cell?_setCell_far _ ⟨w2.heap.size, 5, none⟩ ⟨w1.heap.size, 0, none⟩ _ n21).trans cx11))
  generalize (((w11.setCell ⟨w2.heap.size, 5, none⟩ (.int .i64 r4.1)).setCell ⟨w2.heap.size, 6, none⟩ (.int .i64 r5.1)).setCell ⟨w2.heap.size, 7, none⟩ (.int .i64 r6.1)) = w12 at *
  obtain ⟨ba, bc, ya, yc, rfl, rfl, HBl, HYs, HSt⟩ := TK12.out.lies
  have HFL : Hid (flatC (⟨r1.1, l4, ba, bc, r2.1, YT.1, ya, yc, r3.1, r4.1, r5.1, r6.1⟩ : CatIn) = (takeT o0).1) := by
    show _ = _
    rw [HT.out]
    show (⟨r1.1, l4.map flatB, none, 0, r2.1, YT.1, none, 0, r3.1, r4.1, r5.1, r6.1⟩ : CatIn) = _
    rw [HM.out]
  have HSN : Hid (Small (⟨r1.1, l4, ba, bc, r2.1, YT.1, ya, yc, r3.1, r4.1, r5.1, r6.1⟩ : CatIn) ∧ Nums (⟨r1.1, l4, ba, bc, r2.1, YT.1, ya, yc, r3.1, r4.1, r5.1, r6.1⟩ : CatIn)) := ⟨small_flat (by rw [HFL.out]; exact (takeT_ok o0).1), nums_flat (by rw [HFL.out]; exact (takeT_ok o0).2)⟩
  have CK := Lib.hid (Check_any (⟨r1.1, l4, ba, bc, r2.1, YT.1, ya, yc, r3.1, r4.1, r5.1, r6.1⟩ : CatIn) w12 ⟨⟨HBl, HYs, HSt⟩, HSN.out.1, HSN.out.2⟩)
  have HK : Hid (chkC (takeT o0).1 = chkC (⟨r1.1, l4, ba, bc, r2.1, YT.1, ya, yc, r3.1, r4.1, r5.1, r6.1⟩ : CatIn)) := by show _ = _; rw [← HFL.out, chkC_flat]
  obtain ⟨K, hK⟩ : ∃ K, Hid (chkC (⟨r1.1, l4, ba, bc, r2.1, YT.1, ya, yc, r3.1, r4.1, r5.1, r6.1⟩ : CatIn) = K) := ⟨_, rfl⟩
  rw [hK.out] at CK HK
  rw [HK.out] at HV
  obtain ⟨q0, q1, q2, q3, q4, q5, q6, q7⟩ := row8 TK12.out.row
  simp only [c8] at q0 q1 q2 q3 q4 q5 q6 q7
  have HRES := heap8 TK12.out.res
  simp only [c8] at HRES
  have HFR := Lib.hid TK12.out.fr
  have CD1 := Lib.hid (CD.out w12 _ _ TK12.out.rd)
  unfold CatIn.val at CK
  clear HBl HYs HSt TK8 TK9 TK10 TK11 HR9 HR10 HR11 HG9 HG10 HG11 cx8 cx9 cx10 cx11 cx7s TK7s s8 s9 s10 s11
  cases hd : doneS r6.2 with
  | false =>
    have HV2 : Hid (TV = (noc, 2)) := by show _ = _; rw [HV.out, hd]; rfl
    rw [hd] at CD1
    clear hd HV
    go_wp2_with (first
      | (go_at_call 34; (with_reducible refine CD1.out.mono ?_); rintro e w13 ⟨rfl, rfl⟩)
      | (refine wpList_store_row rfl 27 (.tmp 2) (.tmp 41) rfl w.heap.size #[.int .i64 0, .slice none 0 0, .int .i64 0, .slice none 0 0, .int .i64 0, .int .i64 0, .int .i64 0, .int .i64 0] rfl rfl 27 _ HRES sizeC rfl (by simp [Value.oneCell']) ?_))
    try simp only [Exit.inBlock, Exit.then]
    refine bodyPost_ret (v := .tuple #[.agg #[.int .i64 0, .slice none 0 0, .int .i64 0, .slice none 0 0, .int .i64 0, .int .i64 0, .int .i64 0, .int .i64 0], .int .i64 2]) ?_ rfl ?_
    · rw [results_cell_tmp rfl]
      simp [asAddr, run_loadVar_row _ _ _ _ #[.int .i64 0, .slice none 0 0, .int .i64 0, .slice none 0 0, .int .i64 0, .int .i64 0, .int .i64 0, .int .i64 0] _ _ (setRow_in HRES) Try.underlying27 rfl sizeC]
    exact ⟨noc, (by rw [HV2.out]; rfl), (by show _ = _; rw [HV2.out]; rfl), ⟨fun i hi => absurd hi (Nat.not_lt_zero _), fun i hi => absurd hi (Nat.not_lt_zero _), fun i hi => absurd hi (Nat.not_lt_zero _)⟩, (TK12.out.fin (Below.refl _ _) _).2⟩
  | true =>
    rw [hd] at CD1
    have hgl : w2.heap.size < w12.heap.size := TK12.out.row.lt
    have hrl : w.heap.size < w12.heap.size := TK12.out.res.lt
    by_cases hk : K = 0
    · have HV2 : Hid (TV = ((takeT o0).1, 0)) := by show _ = _; rw [HV.out, hd, hk]; rfl
      rw [hk] at CK
      clear hd HV hk
      go_wp2_with (first
        | (go_at_call 34; (with_reducible refine CD1.out.mono ?_); rintro e w13 ⟨rfl, rfl⟩)
        | (go_at_call 13; (with_reducible refine CK.out.mono ?_); rintro e w14 ⟨rfl, hb14⟩; have HB14 := Lib.hid hb14; have hg14 := (hb14.block w.heap.size hrl).trans HRES; have p0 := (hb14.cell (p := ⟨w2.heap.size, 0, none⟩) hgl).trans q0; have p1 := (hb14.cell (p := ⟨w2.heap.size, 1, none⟩) hgl).trans q1; have p2 := (hb14.cell (p := ⟨w2.heap.size, 2, none⟩) hgl).trans q2; have p3 := (hb14.cell (p := ⟨w2.heap.size, 3, none⟩) hgl).trans q3; have p4 := (hb14.cell (p := ⟨w2.heap.size, 4, none⟩) hgl).trans q4; have p5 := (hb14.cell (p := ⟨w2.heap.size, 5, none⟩) hgl).trans q5; have p6 := (hb14.cell (p := ⟨w2.heap.size, 6, none⟩) hgl).trans q6; have p7 := (hb14.cell (p := ⟨w2.heap.size, 7, none⟩) hgl).trans q7; clear hb14)
        | (refine wpList_store_row rfl 27 (.tmp 2) (.tmp 42) rfl w.heap.size #[.int .i64 r1.1, .slice ba l4.length bc, .int .i64 r2.1, .slice ya YT.1.length yc, .int .i64 r3.1, .int .i64 r4.1, .int .i64 r5.1, .int .i64 r6.1] rfl rfl 27 _ hg14 sizeC rfl (by simp [Value.oneCell']) ?_))
      try simp only [Exit.inBlock, Exit.then]
      refine bodyPost_ret (v := .tuple #[.agg #[.int .i64 r1.1, .slice ba l4.length bc, .int .i64 r2.1, .slice ya YT.1.length yc, .int .i64 r3.1, .int .i64 r4.1, .int .i64 r5.1, .int .i64 r6.1], .int .i64 0]) ?_ rfl ?_
      · rw [results_cell_tmp rfl]
        simp [asAddr, run_loadVar_row _ _ _ _ #[.int .i64 r1.1, .slice ba l4.length bc, .int .i64 r2.1, .slice ya YT.1.length yc, .int .i64 r3.1, .int .i64 r4.1, .int .i64 r5.1, .int .i64 r6.1] _ _ (setRow_in hg14) Try.underlying27 rfl sizeC]
      have hfin := TK12.out.fin HB14.out #[.int .i64 r1.1, .slice ba l4.length bc, .int .i64 r2.1, .slice ya YT.1.length yc, .int .i64 r3.1, .int .i64 r4.1, .int .i64 r5.1, .int .i64 r6.1]
      exact ⟨(⟨r1.1, l4, ba, bc, r2.1, YT.1, ya, yc, r3.1, r4.1, r5.1, r6.1⟩ : CatIn), (by rw [HV2.out]; rfl), (by show _ = _; rw [HV2.out]; exact HFL.out), hfin.1, hfin.2⟩
    · have HV2 : Hid (TV = (noc, 2)) := by show _ = _; rw [HV.out, hd, decide_eq_false hk]; rfl
      have dk : (K == 0) = false := beq_eq_false_iff_ne.2 hk
      clear hd HV
      go_wp2_with (first
        | (go_at_call 34; (with_reducible refine CD1.out.mono ?_); rintro e w13 ⟨rfl, rfl⟩)
        | (go_at_call 13; (with_reducible refine CK.out.mono ?_); rintro e w14 ⟨rfl, hb14⟩; have HB14 := Lib.hid hb14; have hg14 := (hb14.block w.heap.size hrl).trans HRES; have p0 := (hb14.cell (p := ⟨w2.heap.size, 0, none⟩) hgl).trans q0; have p1 := (hb14.cell (p := ⟨w2.heap.size, 1, none⟩) hgl).trans q1; have p2 := (hb14.cell (p := ⟨w2.heap.size, 2, none⟩) hgl).trans q2; have p3 := (hb14.cell (p := ⟨w2.heap.size, 3, none⟩) hgl).trans q3; have p4 := (hb14.cell (p := ⟨w2.heap.size, 4, none⟩) hgl).trans q4; have p5 := (hb14.cell (p := ⟨w2.heap.size, 5, none⟩) hgl).trans q5; have p6 := (hb14.cell (p := ⟨w2.heap.size, 6, none⟩) hgl).trans q6; have p7 := (hb14.cell (p := ⟨w2.heap.size, 7, none⟩) hgl).trans q7; clear hb14)
        | (refine wpList_store_row rfl 27 (.tmp 2) (.tmp 41) rfl w.heap.size #[.int .i64 0, .slice none 0 0, .int .i64 0, .slice none 0 0, .int .i64 0, .int .i64 0, .int .i64 0, .int .i64 0] rfl rfl 27 _ hg14 sizeC rfl (by simp [Value.oneCell']) ?_))
      try simp only [Exit.inBlock, Exit.then]
      refine bodyPost_ret (v := .tuple #[.agg #[.int .i64 0, .slice none 0 0, .int .i64 0, .slice none 0 0, .int .i64 0, .int .i64 0, .int .i64 0, .int .i64 0], .int .i64 2]) ?_ rfl ?_
      · rw [results_cell_tmp rfl]
        simp [asAddr, run_loadVar_row _ _ _ _ #[.int .i64 0, .slice none 0 0, .int .i64 0, .slice none 0 0, .int .i64 0, .int .i64 0, .int .i64 0, .int .i64 0] _ _ (setRow_in hg14) Try.underlying27 rfl sizeC]
      exact ⟨noc, (by rw [HV2.out]; rfl), (by show _ = _; rw [HV2.out]; rfl), ⟨fun i hi => absurd hi (Nat.not_lt_zero _), fun i hi => absurd hi (Nat.not_lt_zero _), fun i hi => absurd hi (Nat.not_lt_zero _)⟩, (TK12.out.fin HB14.out _).2⟩
end Cat
end Go.Proofs.Ytfincohdchnniaa
