/- Stacks that came in, or stand in a row of one's own; whether they are the same. -/
import Derived.Test.YtbjlkeneeodghaaDoorOwn
import Derived.Test.YtbjlkeneeodghaaDoorRdA
import Derived.WalkKit
import Derived.ProofKit
import Derived.Below
import Derived.WalkLawsBesides
import Derived.Lib.Hide
namespace Go.Proofs.YtbjlkeneeodghaaDoor
open Go.RowKit
namespace Rec
theorem below2 {w a b : World} (h : Below w.heap.size w a) (h2 : Below a.heap.size a b) : Below w.heap.size w b := h.trans (h2.mono h.size)
theorem below_al {w x : World} (h : Below w.heap.size w x) (o : Obj) : Below w.heap.size w (x.alloc o) := h.alloc h.size o
theorem below_dN {B : Nat} {a w : World} (h : Below B a w) (n : Nat) : Below B a (w.drewN n) := ⟨h.os, h.tape, h.output, h.size, h.block⟩
abbrev Stk := Int × Int
/-- The stacks that stand from an address on. -/
def Stks (w : World) (a : Option Addr) (l : List Stk) : Prop :=
  ∀ i, i < l.length → ∃ b off, a = some ⟨b, off, none⟩ ∧ b < w.heap.size ∧ w.cell? ⟨b, off + i * 2, none⟩ = some (.int .i64 (l.getD i (0, 0)).1) ∧ w.cell? ⟨b, off + i * 2 + 1, none⟩ = some (.int .i64 (l.getD i (0, 0)).2)
theorem Stks.below {w w' : World} {a : Option Addr} {l : List Stk} (h : Stks w a l) (hb : Below w.heap.size w w') : Stks w' a l := fun i hi => by
  obtain ⟨b, off, ha, hlt, hc, hd⟩ := h i hi
  exact ⟨b, off, ha, Nat.lt_of_lt_of_le hlt hb.size, (hb.cell (p := ⟨b, off + i * 2, none⟩) hlt).trans hc, (hb.cell (p := ⟨b, off + i * 2 + 1, none⟩) hlt).trans hd⟩
/-- Stacks as cells. -/
def stkVals (l : List Stk) : List Value := l.flatMap fun s => [Value.int .i64 s.1, Value.int .i64 s.2]
theorem stkVals_append (a b : List Stk) : stkVals (a ++ b) = stkVals a ++ stkVals b := by simp [stkVals]
theorem stkVals_length (l : List Stk) : (stkVals l).length = l.length * 2 := by
  induction l with
  | nil => rfl
  | cons a l ih => simp only [stkVals, List.flatMap_cons, List.length_append, List.length_cons, List.length_nil] at ih ⊢; omega
theorem stkVals_get (l : List Stk) (i : Nat) (h : i < l.length) : (stkVals l)[i * 2]? = some (.int .i64 (l.getD i (0, 0)).1) ∧ (stkVals l)[i * 2 + 1]? = some (.int .i64 (l.getD i (0, 0)).2) := by
  induction l generalizing i with
  | nil => simp at h
  | cons a l ih =>
    cases i with
    | zero => exact ⟨rfl, rfl⟩
    | succ i =>
      have := ih i (by simpa using h)
      have e1 : (i + 1) * 2 = i * 2 + 1 + 1 := by omega
      rw [e1]
      exact this
/-- One pair behind a row of one's own. -/
theorem list_pair {P : Program} {ops : Array Oper} {rest : List Oper} {o : Oper} {a : Act} {w : World} {Q : Exit → Act → World → Prop} (hgd : o.guard = none) (s x : Operand) (t : TypeId)
    (ho : o.op = .call { callee := .builtin .append, args := #[s, x], argTypes := #[t, t] })
    (base : Nat) (e : TypeId) (i : TypeInfo) (z : Value) (bytes : Nat) (ht : P.underlying t = some (.slice e)) (hi : P.info? e = some i) (hz : i.zero = some z)
    (hsize : i.size = 2) (hby : i.bytes = bytes) (hzs : z.cells.size = 2)
    (v : Value) (n : Nat) (xs : List Value) (hs : a.eval s = v) (ad : Addr) (c : Nat) (u0 u1 : Value) (hx : a.eval x = .slice (some ad) 1 c) (hown : w.ownsRow base e 2 v n xs)
    (hu0 : w.cell? (ad.add 0) = some u0) (hu1 : w.cell? (ad.add 1) = some u1) (h0 : u0.oneCell' = true) (h1 : u1.oneCell' = true) (h63 : n + 1 ≤ maxLen) (hbytes : (n + 1) * bytes ≤ 140737488355328) (hbase : base ≤ w.heap.size)
    (h : ∀ v' w', w'.ownsRow base e 2 v' (n + 1) (xs ++ [u0, u1]) → w.grownBy w' v.ownBlock → wpList P ops Q rest (a.put o.dst v') w') : wpList P ops Q (o :: rest) a w :=
  wpList_append_own w hgd s x t ho base e i z 2 bytes ht hi hz hsize hby hzs (by decide) v n xs hs hown ad 1 c [u0, u1] hx rfl
    (fun j u hj => by
      match j, hj with
      | 0, hj => simp at hj; subst hj; exact hu0
      | 1, hj => simp at hj; subst hj; exact hu1
      | j + 2, hj => simp at hj) (fun u hw => by simp at hw; rcases hw with rfl | rfl <;> assumption) h63 hbytes hbase
    (fun v' w' hown' hgrow _ => h v' w' hown' hgrow)
theorem stks_of_own {w : World} {base : Nat} {T : TypeId} {v : Value} {l : List Stk} (h : w.ownsRow base T 2 v l.length (stkVals l)) : ∃ a cap, v = .slice a l.length cap ∧ Stks w a l := by
  rcases h.2 with ⟨rfl, h0⟩ | ⟨g, cap, cur, rfl, _, hg, _⟩
  · exact ⟨none, 0, by rw [h0], fun i hi => by omega⟩
  · refine ⟨some ⟨g, 0, none⟩, cap, rfl, fun i hi => ⟨g, 0, rfl, ?_, ?_, ?_⟩⟩
    · exact (Array.getElem?_eq_some_iff.1 hg).1
    · have := h.cells rfl (i * 2) _ (stkVals_get l i hi).1
      have hadd : (⟨g, 0, none⟩ : Addr).add (i * 2) = ⟨g, 0 + i * 2, none⟩ := by unfold Addr.add; split <;> simp_all
      rwa [hadd] at this
    · have := h.cells rfl (i * 2 + 1) _ (stkVals_get l i hi).2
      have hadd : (⟨g, 0, none⟩ : Addr).add (i * 2 + 1) = ⟨g, 0 + i * 2 + 1, none⟩ := by unfold Addr.add; split <;> simp_all <;> omega
      rwa [hadd] at this
theorem pair_new (w : World) (u0 u1 : Value) (t : TypeId) : (w.alloc (.cells #[u0, u1] t)).cell? ((⟨w.heap.size, 0, none⟩ : Addr).add 0) = some u0 ∧ (w.alloc (.cells #[u0, u1] t)).cell? ((⟨w.heap.size, 0, none⟩ : Addr).add 1) = some u1 := by
  constructor <;> simp [Addr.add, go_sem]
theorem ext_stk (l m : List Stk) (h : l.length = m.length) (hg : ∀ j, j < l.length → l.getD j (0, 0) = m.getD j (0, 0)) : l = m := by
  apply List.ext_getElem h
  intro j h1 h2
  have := hg j h1
  rwa [List.getD_eq_getElem?_getD, List.getD_eq_getElem?_getD, List.getElem?_eq_getElem h1, List.getElem?_eq_getElem h2] at this
set_option maxHeartbeats 1000000 in
theorem same_any (a b : Option Addr) (c1 c2 : Nat) (l m : List Stk) (hl : l.length ≤ 4096) (hm : m.length ≤ 4096) (w : World) (ha : Stks w a l) (hb : Stks w b m) :
    Calls Tryd.prog 42 #[.slice a l.length c1, .slice b m.length c2] w fun e w' => e = .returned (.bool (decide (l = m))) ∧ Below w.heap.size w w' := by
  have HA := Lib.hid ha
  have HB := Lib.hid hb
  clear ha hb
  by_cases hlen : l.length = m.length
  · rw [← hlen]
    have HLEN := Lib.hid hlen
    clear hlen
    go_enter Tryd.func42, Tryd.ntmps42
    go_wp2
    go_loopw [5] (fun i wr => ∃ k : Nat, k ≤ l.length ∧ i = .int .i64 k ∧ Hid (∀ j, j < k → l.getD j (0, 0) = m.getD j (0, 0)) ∧ Below w.heap.size w wr) (fun i _ => l.length - (intOf i).toNat)
    case atStart => exact ⟨0, by omega, rfl, fun j hj => by omega, Below.refl _ _⟩
    case round =>
      obtain ⟨k, hk, rfl, HE, hb⟩ := hrel
      by_cases hlt : k < l.length
      · obtain ⟨b1, o1, rfl, hbl1, hc1, hd1⟩ := (Stks.below HA.out hb) k hlt
        obtain ⟨b2, o2, rfl, hbl2, hc2, hd2⟩ := (Stks.below HB.out hb) k (by rw [← HLEN.out]; exact hlt)
        have hlt1 : (k : Int) < (l.length : Int) := by omega
        have e1 : decide ((k : Int) < (l.length : Int)) = true := decide_eq_true hlt1
        have hy : Hid ((l.getD k (0, 0)).1 = (m.getD k (0, 0)).1 ∧ (l.getD k (0, 0)).2 = (m.getD k (0, 0)).2 → ∀ j, j < k + 1 → l.getD j (0, 0) = m.getD j (0, 0)) := fun h j hj => by
          by_cases e : j = k
          · subst e; exact Prod.ext h.1 h.2
          · exact HE.out j (by omega)
        have hn : Hid (¬ ((l.getD k (0, 0)).1 = (m.getD k (0, 0)).1 ∧ (l.getD k (0, 0)).2 = (m.getD k (0, 0)).2) → decide (l = m) = false) := fun h => decide_eq_false fun e => h (by subst e; exact ⟨rfl, rfl⟩)
        generalize (l.getD k (0, 0)).1 = T1 at *
        generalize (l.getD k (0, 0)).2 = Q1 at *
        generalize (m.getD k (0, 0)).1 = T2 at *
        generalize (m.getD k (0, 0)).2 = Q2 at *
        by_cases g1 : T1 = T2
        · subst g1
          by_cases g2 : Q1 = Q2
          · subst g2
            have HY := Lib.hid (hy.out ⟨rfl, rfl⟩)
            go_wp2
            go_quiet (fail)
            go_wp2
            go_roundw
            case rel => exact ⟨k + 1, by omega, by go_num, HY, below_dN hb _⟩
            case measure => simp [intOf]; omega
          · have d2 : (Q1 == Q2) = false := beq_eq_false_iff_ne.2 g2
            have HN := Lib.hid (hn.out fun h => g2 h.2)
            go_wp2
            go_quiet (fail)
            go_wp2
            go_ret
            exact ⟨by rw [HN.out]; rfl, below_dN hb _⟩
        · have d1 : (T1 == T2) = false := beq_eq_false_iff_ne.2 g1
          have HN := Lib.hid (hn.out fun h => g1 h.1)
          go_wp2
          go_quiet (fail)
          go_wp2
          go_ret
          exact ⟨by rw [HN.out]; rfl, below_dN hb _⟩
      · have hke : k = l.length := by omega
        rw [hke] at HE
        have HN : Hid (decide (l = m) = true) := decide_eq_true (ext_stk l m HLEN.out HE.out)
        have n1 : ¬ (k : Int) < (l.length : Int) := by omega
        have e1 : decide ((k : Int) < (l.length : Int)) = false := decide_eq_false n1
        clear hke
        go_wp2
        go_ret
        exact ⟨by rw [HN.out]; rfl, hb⟩
  · have dl : ((l.length : Int) == (m.length : Int)) = false := beq_eq_false_iff_ne.2 (by omega)
    have hlen' : ¬ (l.length : Int) = (m.length : Int) := by omega
    have HN : Hid (decide (l = m) = false) := decide_eq_false fun e => hlen (by rw [e])
    go_enter Tryd.func42, Tryd.ntmps42
    go_wp2
    go_ret
    exact ⟨by rw [HN.out]; rfl, Below.refl _ _⟩
end Rec
end Go.Proofs.YtbjlkeneeodghaaDoor
