/- Stacks and blueprints that came in: what a walk is told of them; what stacks may be. -/
import Derived.Test.YtblefohjnmmpmaaChecked
import Derived.WalkKit
import Derived.ProofKit
import Derived.Below
import Derived.WalkLawsBesides
import Derived.Lib.Hide
namespace Go.Proofs.Ytblefohjnmmpmaa
open Go.RowKit
namespace Rec
theorem below2 {w a b : World} (h : Below w.heap.size w a) (h2 : Below a.heap.size a b) : Below w.heap.size w b := h.trans (h2.mono h.size)
theorem below_al {w x : World} (h : Below w.heap.size w x) (o : Obj) : Below w.heap.size w (x.alloc o) := h.alloc h.size o
abbrev Stk := Int × Int
/-- The stacks that stand from an address on. -/
def Stks (w : World) (a : Option Addr) (l : List Stk) : Prop :=
  ∀ i, i < l.length → ∃ b off, a = some ⟨b, off, none⟩ ∧ b < w.heap.size ∧ w.cell? ⟨b, off + i * 2, none⟩ = some (.int .i64 (l.getD i (0, 0)).1) ∧ w.cell? ⟨b, off + i * 2 + 1, none⟩ = some (.int .i64 (l.getD i (0, 0)).2)
theorem Stks.below {w w' : World} {a : Option Addr} {l : List Stk} (h : Stks w a l) (hb : Below w.heap.size w w') : Stks w' a l := fun i hi => by
  obtain ⟨b, off, ha, hlt, hc, hd⟩ := h i hi
  exact ⟨b, off, ha, Nat.lt_of_lt_of_le hlt hb.size, (hb.cell (p := ⟨b, off + i * 2, none⟩) hlt).trans hc, (hb.cell (p := ⟨b, off + i * 2 + 1, none⟩) hlt).trans hd⟩
/-- The type ahead of the k-th stack. -/
def lastOf (l : List Stk) : Nat → Int
  | 0 => 0
  | k + 1 => (l.getD k (0, 0)).1
/-- The k-th stack may be one of so many types. -/
def good (l : List Stk) (types : Int) (k : Nat) : Bool :=
  decide (lastOf l k < (l.getD k (0, 0)).1) && (decide ((l.getD k (0, 0)).1 ≤ types) && (decide (1 ≤ (l.getD k (0, 0)).2) && decide ((l.getD k (0, 0)).2 ≤ 1125899906842624)))
def goodTo (l : List Stk) (types : Int) : Nat → Bool
  | 0 => true
  | k + 1 => goodTo l types k && good l types k
def chk (l : List Stk) (types : Int) : Int := if goodTo l types l.length && decide (l.length ≤ 8) then 0 else 1
theorem goodTo_no (l : List Stk) (types : Int) (k j : Nat) (h : good l types k = false) (hj : k < j) : goodTo l types j = false := by
  induction j with
  | zero => omega
  | succ j ih =>
    rw [goodTo]
    by_cases e : k = j
    · subst e; rw [h]; simp
    · rw [ih (by omega)]; rfl
set_option maxHeartbeats 1000000 in
theorem goodsCheck_any (a : Option Addr) (cap : Nat) (l : List Stk) (hl : l.length ≤ maxLen) (types : Int) (w : World) (ha : Stks w a l) :
    Calls Try.prog 29 #[.slice a l.length cap, .int .i64 types] w fun e w' => e = .returned (.int .i64 (chk l types)) ∧ Below w.heap.size w w' := by
  unfold maxLen at hl
  have HA := Lib.hid ha
  clear ha
  go_enter Try.func29, Try.ntmps29
  go_wp2
  go_loopw [5, 10] (fun x i wr => ∃ k : Nat, k ≤ l.length ∧ i = .int .i64 k ∧ x = .int .i64 (lastOf l k) ∧ Hid (goodTo l types k = true) ∧ Below w.heap.size w wr) (fun _ i _ => l.length - (intOf i).toNat)
  case atStart => exact ⟨0, by omega, rfl, rfl, rfl, Below.refl _ _⟩
  case round =>
    obtain ⟨k, hk, rfl, rfl, HG, hb⟩ := hrel
    by_cases hlt : k < l.length
    · obtain ⟨b, off, rfl, hbl, hc, hd⟩ := (Stks.below HA.out hb) k hlt
      have hlt1 : (k : Int) < (l.length : Int) := by omega
      have hgn : Hid (goodTo l types (k + 1) = (goodTo l types k && good l types k)) := rfl
      have hgd : Hid (good l types k = (decide (lastOf l k < (l.getD k (0, 0)).1) && (decide ((l.getD k (0, 0)).1 ≤ types) && (decide (1 ≤ (l.getD k (0, 0)).2) && decide ((l.getD k (0, 0)).2 ≤ 1125899906842624))))) := rfl
      have hnx : Hid (lastOf l (k + 1) = (l.getD k (0, 0)).1) := rfl
      have hno : good l types k = false → Hid (chk l types = 1) := by
        intro h
        show chk l types = 1
        unfold chk
        rw [goodTo_no l types k l.length h hlt]
        rfl
      generalize (l.getD k (0, 0)).1 = T at *
      generalize (l.getD k (0, 0)).2 = Q at *
      obtain ⟨p, hp⟩ : ∃ p, Hid (lastOf l k = p) := ⟨_, rfl⟩
      rw [hp.out] at hgd ⊢
      by_cases g1 : p < T
      · have d1 : decide (T ≤ p) = false := decide_eq_false (by omega)
        have n1 : ¬ T ≤ p := by omega
        by_cases g2 : T ≤ types
        · have d2 : decide (types < T) = false := decide_eq_false (by omega)
          have n2 : ¬ types < T := by omega
          by_cases g3 : 1 ≤ Q
          · have d3 : decide (Q < 1) = false := decide_eq_false (by omega)
            have n3 : ¬ Q < 1 := by omega
            by_cases g4 : Q ≤ 1125899906842624
            · have d4 : decide (1125899906842624 < Q) = false := decide_eq_false (by omega)
              have n4 : ¬ 1125899906842624 < Q := by omega
              have hg : Hid (goodTo l types (k + 1) = true) := by
                show goodTo l types (k + 1) = true
                rw [hgn.out, HG.out, hgd.out, decide_eq_true g1, decide_eq_true g2, decide_eq_true g3, decide_eq_true g4]
                rfl
              clear hno
              go_wp2
              go_roundw
              case rel => exact ⟨k + 1, by omega, by go_num, by rw [hnx.out], hg, below_al hb _⟩
              case measure => simp [intOf]; omega
            · have d4 : decide (1125899906842624 < Q) = true := decide_eq_true (by omega)
              have n4 : 1125899906842624 < Q := by omega
              have hg := hno (by rw [hgd.out, decide_eq_true g1, decide_eq_true g2, decide_eq_true g3, decide_eq_false g4]; rfl)
              clear hno
              go_wp2
              go_ret
              exact ⟨by rw [hg.out]; rfl, below_al hb _⟩
          · have d3 : decide (Q < 1) = true := decide_eq_true (by omega)
            have n3 : Q < 1 := by omega
            have hg := hno (by rw [hgd.out, decide_eq_true g1, decide_eq_true g2, decide_eq_false g3]; rfl)
            clear hno
            go_wp2
            go_ret
            exact ⟨by rw [hg.out]; rfl, below_al hb _⟩
        · have d2 : decide (types < T) = true := decide_eq_true (by omega)
          have n2 : types < T := by omega
          have hg := hno (by rw [hgd.out, decide_eq_true g1, decide_eq_false g2]; rfl)
          clear hno
          go_wp2
          go_ret
          exact ⟨by rw [hg.out]; rfl, below_al hb _⟩
      · have d1 : decide (T ≤ p) = true := decide_eq_true (by omega)
        have n1 : T ≤ p := by omega
        have hg := hno (by rw [hgd.out, decide_eq_false g1]; rfl)
        clear hno
        go_wp2
        go_ret
        exact ⟨by rw [hg.out]; rfl, below_al hb _⟩
    · have hke : k = l.length := by omega
      rw [hke] at HG
      by_cases h8 : l.length ≤ 8
      · have hg : Hid (chk l types = 0) := by show chk l types = 0; unfold chk; rw [HG.out, decide_eq_true h8]; rfl
        clear hke
        go_wp2
        go_ret
        exact ⟨by rw [hg.out]; rfl, hb⟩
      · have hg : Hid (chk l types = 1) := by show chk l types = 1; unfold chk; rw [HG.out, decide_eq_false h8]; rfl
        clear hke
        go_wp2
        go_ret
        exact ⟨by rw [hg.out]; rfl, hb⟩
end Rec
end Go.Proofs.Ytblefohjnmmpmaa
