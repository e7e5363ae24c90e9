/- Texts put together: CatPa, CatPb, CatPr. -/
import Derived.Test.YtfincohdchnniaaBg
set_option linter.all false
namespace Go.Proofs.Ytfincohdchnniaa
open Go.RowKit
namespace Cat
open Rec (BlueIn Stk Stks Came bchk inB)
open Pen (below2 below_al below_dN bs bs_append uintB grw_trans grw_refl grw_set grw_dN)
open In (Ints)
def numsB (l : List Int) : List UInt8 := l.flatMap uintB
theorem numsB_snoc (l : List Int) (k : Nat) (h : k < l.length) : numsB (l.take (k + 1)) = numsB (l.take k) ++ uintB (l.getD k 0) := by
  rw [getD_take l 0 k h]; simp [numsB]
theorem uintB_len (n : Int) : (uintB n).length ≤ 10 := by
  unfold uintB
  split
  · simp
  · have := (Pen.wbF_len 9 n.toNat).2
    exact this
theorem numsB_len (l : List Int) : (numsB l).length ≤ 10 * l.length := by
  induction l with
  | nil => simp [numsB]
  | cons x l ih =>
    have e : numsB (x :: l) = uintB x ++ numsB l := rfl
    have := uintB_len x
    rw [e, List.length_append, List.length_cons]
    omega
theorem numsB_append (a b : List Int) : numsB (a ++ b) = numsB a ++ numsB b := by simp [numsB]
theorem grw_below {w w1 : World} {g : Nat} (h : Below w.heap.size w w1) : w.grownBy w1 (some g) := ⟨h.os, h.tape, h.output, h.size, fun k hk _ => h.block k hk⟩
theorem frozen_keep {w w1 : World} {g i : Nat} (hb : Below w.heap.size w w1) (hg : g < w.heap.size) (hf : w.frozen? ⟨g, i, none⟩ = false) : w1.frozen? ⟨g, i, none⟩ = false := by
  unfold World.frozen? at hf ⊢
  rw [hb.block g hg]
  exact hf
set_option maxRecDepth 100000 in
set_option maxHeartbeats 2000000 in
theorem refNums_any (a : Option Addr) (cap : Nat) (l : List Int) (hl : l.length ≤ 8) (hn : ∀ i, i < l.length → l.getD i 0 ≤ 9223372036854775807) (w : World) (ha : Ints .i64 w a l) :
    Calls Try.prog 27 #[.slice a l.length cap] w fun e w' => e = .returned (.string (bs (numsB l))) ∧ Below w.heap.size w w' := by
  have HA := Lib.hid ha
  have HN := Lib.hid hn
  obtain ⟨R, hR⟩ : ∃ R, Hid (numsB l = R) := ⟨_, rfl⟩
  rw [hR.out]
  obtain ⟨n, hnl⟩ : ∃ n, Hid (l.length = n) := ⟨_, rfl⟩
  rw [hnl.out] at hl ⊢
  have hn8 : (n : Int) ≤ 8 := by omega
  clear ha hn
  go_enter Try.func27, Try.ntmps27
  go_wp2
  go_loopw [3, 4] (fun v3 v4 wr => ∃ (k : Nat), k ≤ n ∧ v4 = .int .i64 (k : Int) ∧ v3 = .string (bs (numsB (l.take k))) ∧ Hid (Below w.heap.size w wr)) (fun _ v4 _ => n - (intOf v4).toNat)
  case atStart => exact ⟨0, by omega, rfl, rfl, Below.refl _ _⟩
  case round =>
    obtain ⟨k, hk, rfl, rfl, HB⟩ := hrel
    by_cases hlt : k < n
    · obtain ⟨b, off, rfl, hbl, c0⟩ := (HA.out.below HB.out) k (by rw [hnl.out]; exact hlt)
      have hlt1 : (k : Int) < (n : Int) := by omega
      have hk0 : (0 : Int) ≤ (k : Int) := by omega
      have HSN := Lib.hid (numsB_snoc l k (by rw [hnl.out]; exact hlt))
      have HX := Lib.hid (HN.out k (by rw [hnl.out]; exact hlt))
      generalize l.getD k 0 = X at *
      have CU : Hid (∀ W, Calls Try.prog 50 #[.int .i64 X] W fun e w' => e = .returned (.string (bs (uintB X))) ∧ Below W.heap.size W w') := fun W => Pen.refUint_any X HX.out W
      have hsz : ¬ 9223372036854775807 < (bs (numsB (l.take k))).size + (bs (uintB X)).size := by
        rw [Pen.bs_size, Pen.bs_size]
        have h1 := uintB_len X
        have h2 := numsB_len (l.take k)
        have h3 : (l.take k).length ≤ 8 := by rw [List.length_take]; omega
        omega
      generalize uintB X = B at *
      generalize numsB (l.take k) = S at *
      have hap := bs_append S B
      go_wp2_with (go_at_call 50; ((with_reducible refine (CU.out _).mono ?_); rintro e w1 ⟨rfl, hb1⟩))
      go_roundw
      case rel => exact ⟨k + 1, by omega, by go_num, by rw [HSN.out], below2 HB.out hb1⟩
      case measure => simp [intOf]; omega
    · have hke : k = n := by omega
      have HR : Hid (numsB (l.take k) = R) := by show _ = _; rw [hke, ← hnl.out, List.take_length, hR.out]
      rw [HR.out]
      have hge : ¬ (k : Int) < (n : Int) := by omega
      clear hlt hke hk
      go_wp2
      go_ret
      exact ⟨rfl, HB.out⟩
set_option maxRecDepth 100000 in
set_option maxHeartbeats 2000000 in
theorem nums_any (a : Option Addr) (cap : Nat) (l : List Int) (hl : l.length ≤ 8) (hn : ∀ i, i < l.length → l.getD i 0 ≤ 9223372036854775807) (g : Nat) (s : List UInt8) (hs : s.length ≤ 1000000) (w : World) (ha : Ints .i64 w a l) (hne : ∀ b off, a = some ⟨b, off, none⟩ → b ≠ g) (hg : w.cell? ⟨g, 0, none⟩ = some (.string (bs s))) (hgl : g < w.heap.size) (hgf : w.frozen? ⟨g, 0, none⟩ = false) :
    Calls Try.prog 25 #[.slice a l.length cap, .pointer (some ⟨g, 0, none⟩)] w fun e w' => e = .returned (.tuple #[]) ∧ Hid (w'.cell? ⟨g, 0, none⟩ = some (.string (bs (s ++ numsB l))) ∧ w'.frozen? ⟨g, 0, none⟩ = false) ∧ Hid (w.grownBy w' (some g)) := by
  have HA := Lib.hid ha
  have HN := Lib.hid hn
  have HNE := Lib.hid hne
  obtain ⟨n, hnl⟩ : ∃ n, Hid (l.length = n) := ⟨_, rfl⟩
  rw [hnl.out] at hl ⊢
  have hn8 : (n : Int) ≤ 8 := by omega
  have HG : Hid (w.cell? ⟨g, 0, none⟩ = some (.string (bs s)) ∧ w.frozen? ⟨g, 0, none⟩ = false ∧ g < w.heap.size) := ⟨hg, hgf, hgl⟩
  have HS2 : Hid (s.length ≤ 1000000) := hs
  clear ha hn hne hg hgl hgf hs
  go_enter Try.func25, Try.ntmps25
  go_wp2
  go_loopw [7] (fun v7 wr => ∃ (k : Nat), k ≤ n ∧ v7 = .int .i64 (k : Int) ∧ Hid (wr.cell? ⟨g, 0, none⟩ = some (.string (bs (s ++ numsB (l.take k)))) ∧ wr.frozen? ⟨g, 0, none⟩ = false ∧ g < wr.heap.size) ∧ Hid (w.grownBy wr (some g))) (fun v7 _ => n - (intOf v7).toNat)
  case atStart => exact ⟨0, by omega, rfl, by rw [List.take_zero, show numsB [] = [] from rfl, List.append_nil]; exact HG, grw_refl _ _⟩
  case round =>
    obtain ⟨k, hk, rfl, HX, HGR⟩ := hrel
    obtain ⟨x0, x1, x2⟩ := HX.out
    by_cases hlt : k < n
    · obtain ⟨b, off, rfl, hbl, c0⟩ := HA.out k (by rw [hnl.out]; exact hlt)
      have c1 := cell_grown HGR.out hbl (fun e => HNE.out b off rfl (by cases e; rfl)) c0
      have hlt1 : (k : Int) < (n : Int) := by omega
      have hk0 : (0 : Int) ≤ (k : Int) := by omega
      have HSN := Lib.hid (numsB_snoc l k (by rw [hnl.out]; exact hlt))
      have HXX := Lib.hid (HN.out k (by rw [hnl.out]; exact hlt))
      generalize l.getD k 0 = X at *
      have CU : Hid (∀ W, Calls Try.prog 26 #[.int .i64 X] W fun e w' => e = .returned (.string (bs (uintB X))) ∧ Below W.heap.size W w') := fun W => Pen.uint_any X HXX.out W
      have hsz : ¬ 9223372036854775807 < (bs (s ++ numsB (l.take k))).size + (bs (uintB X)).size := by
        rw [Pen.bs_size, Pen.bs_size, List.length_append]
        have h1 := uintB_len X
        have h2 := numsB_len (l.take k)
        have h3 : (l.take k).length ≤ 8 := by rw [List.length_take]; omega
        have h4 := HS2.out
        omega
      have hap := bs_append (s ++ numsB (l.take k)) (uintB X)
      have HSN2 : Hid (s ++ numsB (l.take (k + 1)) = (s ++ numsB (l.take k)) ++ uintB X) := by show _ = _; rw [HSN.out, List.append_assoc]
      clear HSN
      generalize uintB X = B at *
      generalize s ++ numsB (l.take k) = S at *
      clear c0
      go_wp2
      go_region_with (go_at_call 26; ((with_reducible refine (CU.out _).mono ?_); rintro e w1 ⟨rfl, hb1⟩; have y0 := (hb1.cell (p := ⟨g, 0, none⟩) x2).trans x0; have y1 := frozen_keep hb1 x2 x1; have HB1 := Lib.hid hb1; clear hb1))
      all_goals go_wp2
      all_goals go_roundw
      all_goals first
        | (simp [intOf]; omega)
        | skip
      all_goals
        have hgr : wr.grownBy w1 (some g) := ⟨HB1.out.os, HB1.out.tape, HB1.out.output, HB1.out.size, fun k hk _ => HB1.out.block k hk⟩
        refine ⟨k + 1, by omega, by go_num, ⟨?_, ?_, ?_⟩, grw_trans HGR.out (grw_trans hgr (grw_set _ _ _ _))⟩
        · rw [HSN2.out]; go_simp
        · go_simp
        · have := hgr.size; simp; omega
    · have hke : k = n := by omega
      have HR : Hid (l.take k = l) := by show _ = _; rw [hke, ← hnl.out, List.take_length]
      rw [HR.out] at HX
      have hge : ¬ (k : Int) < (n : Int) := by omega
      clear hlt hke hk x0 x1 x2
      go_wp2
      go_end0
      exact ⟨rfl, ⟨HX.out.1, HX.out.2.1⟩, HGR⟩
end Cat
end Go.Proofs.Ytfincohdchnniaa
namespace Go.Proofs.Ytfincohdchnniaa
open Go.RowKit
namespace Cat
open Rec (BlueIn Stk Stks Came bchk inB)
open Pen (bs bs_append uintB)
def stkB (s : Stk) : List UInt8 := numsB [s.1, s.2]
def headB (b : BlueIn) : List UInt8 := numsB [b.makes, b.per, b.time, (b.needs.length : Int)]
def tailB (b : BlueIn) : List UInt8 := numsB [b.copy, b.study, b.most]
def blueB (b : BlueIn) : List UInt8 := headB b ++ (b.needs.flatMap stkB ++ tailB b)
def bayB (b : BayIn) : List UInt8 := numsB [b.place, b.make, b.lab, b.rate]
def putB (c : CatIn) : List UInt8 := numsB [c.types, (c.blues.length : Int)] ++ (c.blues.flatMap blueB ++ (numsB [c.places, (c.bays.length : Int)] ++ (c.bays.flatMap bayB ++ numsB [c.chars, c.broker, c.least, c.sales])))
def putV (c : CatIn) : List UInt8 × Int := if chkC c = 0 then (putB c, 0) else ([], chkC c)
theorem flat_snoc {α : Type} (f : α → List UInt8) (l : List α) (d : α) (k : Nat) (h : k < l.length) : (l.take (k + 1)).flatMap f = (l.take k).flatMap f ++ f (l.getD k d) := by
  rw [getD_take l d k h]; simp
theorem flat_len {α : Type} (f : α → List UInt8) (m : Nat) (l : List α) (h : ∀ a ∈ l, (f a).length ≤ m) : (l.flatMap f).length ≤ l.length * m := by
  induction l with
  | nil => simp
  | cons a l ih =>
    have h1 := h a List.mem_cons_self
    have h2 := ih fun b hb => h b (List.mem_cons_of_mem _ hb)
    have h3 : (l.length + 1) * m = l.length * m + m := Nat.succ_mul _ _
    rw [List.flatMap_cons, List.length_append, List.length_cons]
    omega
theorem stkB_len (s : Stk) : (stkB s).length ≤ 20 := numsB_len [s.1, s.2]
theorem headB_len (b : BlueIn) : (headB b).length ≤ 40 := numsB_len _
theorem tailB_len (b : BlueIn) : (tailB b).length ≤ 30 := numsB_len _
theorem bayB_len (b : BayIn) : (bayB b).length ≤ 40 := numsB_len _
theorem needsB_len (l : List Stk) (k : Nat) (h : l.length ≤ 12) : ((l.take k).flatMap stkB).length ≤ 240 := by
  have h1 := flat_len stkB 20 (l.take k) fun s _ => stkB_len s
  have h2 : (l.take k).length ≤ 12 := by rw [List.length_take]; omega
  have := Nat.mul_le_mul_right 20 h2
  omega
theorem blueB_len (b : BlueIn) (h : b.needs.length ≤ 12) : (blueB b).length ≤ 310 := by
  have h1 := headB_len b
  have h2 := tailB_len b
  have h3 := needsB_len b.needs b.needs.length h
  rw [List.take_length] at h3
  unfold blueB
  rw [List.length_append, List.length_append]
  omega
theorem bluesB_len (l : List BlueIn) (k : Nat) (hl : l.length ≤ 20) (h : ∀ i, i < l.length → (l.getD i nob).needs.length ≤ 12) : ((l.take k).flatMap blueB).length ≤ 6200 := by
  have h1 := flat_len blueB 310 (l.take k) fun b hb => by
    obtain ⟨i, hi, rfl⟩ := List.getElem_of_mem (List.mem_of_mem_take hb)
    have := h i hi
    rw [List.getD_eq_getElem?_getD, List.getElem?_eq_getElem hi] at this
    exact blueB_len _ this
  have h2 : (l.take k).length ≤ 20 := by rw [List.length_take]; omega
  have := Nat.mul_le_mul_right 310 h2
  omega
theorem baysB_len (l : List BayIn) (k : Nat) (hl : l.length ≤ 12) : ((l.take k).flatMap bayB).length ≤ 480 := by
  have h1 := flat_len bayB 40 (l.take k) fun s _ => bayB_len s
  have h2 : (l.take k).length ≤ 12 := by rw [List.length_take]; omega
  have := Nat.mul_le_mul_right 40 h2
  omega
end Cat
end Go.Proofs.Ytfincohdchnniaa
namespace Go.Proofs.Ytfincohdchnniaa
open Go.RowKit
namespace Cat
open Rec (BlueIn Stk Stks Came bchk inB)
open Pen (below2 below_al below_dN bs bs_append uintB)
open In (Ints)
theorem ints_new {w : World} {g : Nat} (hg : w.heap.size = g) (l : List Int) (cs : Array Value) (hcs : cs = (l.map (Value.int .i64)).toArray) (t : TypeId) : Ints .i64 (w.alloc (.cells cs t)) (some ⟨g, 0, none⟩) l := fun i hi => by
  subst hg
  subst hcs
  refine ⟨w.heap.size, 0, rfl, by simp, ?_⟩
  rw [cell_of_row _ _ _ _ t (0, 0) (heap_at rfl _)]
  simp [List.getD, hi]
/-- Every number is at most int's greatest. -/
def Low (l : List Int) : Prop := ∀ i, i < l.length → l.getD i 0 ≤ 9223372036854775807
theorem in64_le {x : Int} (h : In64 x) : x ≤ 9223372036854775807 := by
  have := h
  unfold In64 at this
  simp [Lit.wf] at this
  exact this.2
theorem low2 {a b : Int} (ha : a ≤ 9223372036854775807) (hb : b ≤ 9223372036854775807) : Low [a, b] := fun i hi => by
  match i, hi with
  | 0, _ => exact ha
  | 1, _ => exact hb
theorem low3 {a b c : Int} (ha : a ≤ 9223372036854775807) (hb : b ≤ 9223372036854775807) (hc : c ≤ 9223372036854775807) : Low [a, b, c] := fun i hi => by
  match i, hi with
  | 0, _ => exact ha
  | 1, _ => exact hb
  | 2, _ => exact hc
theorem low4 {a b c d : Int} (ha : a ≤ 9223372036854775807) (hb : b ≤ 9223372036854775807) (hc : c ≤ 9223372036854775807) (hd : d ≤ 9223372036854775807) : Low [a, b, c, d] := fun i hi => by
  match i, hi with
  | 0, _ => exact ha
  | 1, _ => exact hb
  | 2, _ => exact hc
  | 3, _ => exact hd
end Cat
end Go.Proofs.Ytfincohdchnniaa
