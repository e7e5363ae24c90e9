/- Whether stacks are the same; the reference's check of stacks, and how many there are of a type. -/
import Derived.Test.YtblefohjnmmpmaaRecW
namespace Go.Proofs.Ytblefohjnmmpmaa
open Go.RowKit
namespace Rec
theorem below_dN {B : Nat} {a w : World} (h : Below B a w) (n : Nat) : Below B a (w.drewN n) := ⟨h.os, h.tape, h.output, h.size, h.block⟩
theorem ext_stk (l m : List Stk) (h : l.length = m.length) (hg : ∀ j, j < l.length → l.getD j (0, 0) = m.getD j (0, 0)) : l = m := by
  apply List.ext_getElem h
  intro j h1 h2
  have := hg j h1
  rwa [List.getD_eq_getElem?_getD, List.getD_eq_getElem?_getD, List.getElem?_eq_getElem h1, List.getElem?_eq_getElem h2] at this
set_option maxHeartbeats 1000000 in
theorem same_any (a b : Option Addr) (c1 c2 : Nat) (l m : List Stk) (hl : l.length ≤ 4096) (hm : m.length ≤ 4096) (w : World) (ha : Stks w a l) (hb : Stks w b m) :
    Calls Try.prog 14 #[.slice a l.length c1, .slice b m.length c2] w fun e w' => e = .returned (.bool (decide (l = m))) ∧ Below w.heap.size w w' := by
  have HA := Lib.hid ha
  have HB := Lib.hid hb
  clear ha hb
  by_cases hlen : l.length = m.length
  · rw [← hlen]
    have HLEN := Lib.hid hlen
    clear hlen
    go_enter Try.func14, Try.ntmps14
    go_wp2
    go_loopw [5] (fun i wr => ∃ k : Nat, k ≤ l.length ∧ i = .int .i64 k ∧ Hid (∀ j, j < k → l.getD j (0, 0) = m.getD j (0, 0)) ∧ Below w.heap.size w wr) (fun i _ => l.length - (intOf i).toNat)
    case atStart => exact ⟨0, by omega, rfl, fun j hj => by omega, Below.refl _ _⟩
    case round =>
      obtain ⟨k, hk, rfl, HE, hb⟩ := hrel
      by_cases hlt : k < l.length
      · obtain ⟨b1, o1, rfl, hbl1, hc1, hd1⟩ := (Stks.below HA.out hb) k hlt
        obtain ⟨b2, o2, rfl, hbl2, hc2, hd2⟩ := (Stks.below HB.out hb) k (by rw [← HLEN.out]; exact hlt)
        have hlt1 : (k : Int) < (l.length : Int) := by omega
        have e1 : decide ((k : Int) < (l.length : Int)) = true := decide_eq_true hlt1
        have hy : Hid ((l.getD k (0, 0)).1 = (m.getD k (0, 0)).1 ∧ (l.getD k (0, 0)).2 = (m.getD k (0, 0)).2 → ∀ j, j < k + 1 → l.getD j (0, 0) = m.getD j (0, 0)) := fun h j hj => by
          by_cases e : j = k
          · subst e; exact Prod.ext h.1 h.2
          · exact HE.out j (by omega)
        have hn : Hid (¬ ((l.getD k (0, 0)).1 = (m.getD k (0, 0)).1 ∧ (l.getD k (0, 0)).2 = (m.getD k (0, 0)).2) → decide (l = m) = false) := fun h => decide_eq_false fun e => h (by subst e; exact ⟨rfl, rfl⟩)
        generalize (l.getD k (0, 0)).1 = T1 at *
        generalize (l.getD k (0, 0)).2 = Q1 at *
        generalize (m.getD k (0, 0)).1 = T2 at *
        generalize (m.getD k (0, 0)).2 = Q2 at *
        by_cases g1 : T1 = T2
        · subst g1
          by_cases g2 : Q1 = Q2
          · subst g2
            have HY := Lib.hid (hy.out ⟨rfl, rfl⟩)
            go_wp2
            go_quiet (fail)
            go_wp2
            go_roundw
            case rel => exact ⟨k + 1, by omega, by go_num, HY, below_dN hb _⟩
            case measure => simp [intOf]; omega
          · have d2 : (Q1 == Q2) = false := beq_eq_false_iff_ne.2 g2
            have HN := Lib.hid (hn.out fun h => g2 h.2)
            go_wp2
            go_quiet (fail)
            go_wp2
            go_ret
            exact ⟨by rw [HN.out]; rfl, below_dN hb _⟩
        · have d1 : (T1 == T2) = false := beq_eq_false_iff_ne.2 g1
          have HN := Lib.hid (hn.out fun h => g1 h.1)
          go_wp2
          go_quiet (fail)
          go_wp2
          go_ret
          exact ⟨by rw [HN.out]; rfl, below_dN hb _⟩
      · have hke : k = l.length := by omega
        rw [hke] at HE
        have HN : Hid (decide (l = m) = true) := decide_eq_true (ext_stk l m HLEN.out HE.out)
        have n1 : ¬ (k : Int) < (l.length : Int) := by omega
        have e1 : decide ((k : Int) < (l.length : Int)) = false := decide_eq_false n1
        clear hke
        go_wp2
        go_ret
        exact ⟨by rw [HN.out]; rfl, hb⟩
  · have dl : ((l.length : Int) == (m.length : Int)) = false := beq_eq_false_iff_ne.2 (by omega)
    have hlen' : ¬ (l.length : Int) = (m.length : Int) := by omega
    have HN : Hid (decide (l = m) = false) := decide_eq_false fun e => hlen (by rw [e])
    go_enter Try.func14, Try.ntmps14
    go_wp2
    go_ret
    exact ⟨by rw [HN.out]; rfl, Below.refl _ _⟩
end Rec
end Go.Proofs.Ytblefohjnmmpmaa
