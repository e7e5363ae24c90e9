/- Whether numbers are those that they may be. -/
import Derived.Test.YtblefohjnmmpmaaRecP
namespace Go.Proofs.Ytblefohjnmmpmaa
open Go.RowKit
namespace Rec
abbrev Bnd := Int × Int × Int
/-- The bounds that stand from an address on. -/
def Bnds (w : World) (a : Option Addr) (l : List Bnd) : Prop :=
  ∀ i, i < l.length → ∃ b off, a = some ⟨b, off, none⟩ ∧ b < w.heap.size ∧ w.cell? ⟨b, off + i * 3, none⟩ = some (.int .i64 (l.getD i (0, 0, 0)).1) ∧ w.cell? ⟨b, off + i * 3 + 1, none⟩ = some (.int .i64 (l.getD i (0, 0, 0)).2.1) ∧ w.cell? ⟨b, off + i * 3 + 2, none⟩ = some (.int .i64 (l.getD i (0, 0, 0)).2.2)
theorem Bnds.below {w w' : World} {a : Option Addr} {l : List Bnd} (h : Bnds w a l) (hb : Below w.heap.size w w') : Bnds w' a l := fun i hi => by
  obtain ⟨b, off, ha, hlt, hc, hd, he⟩ := h i hi
  exact ⟨b, off, ha, Nat.lt_of_lt_of_le hlt hb.size, (hb.cell (p := ⟨b, off + i * 3, none⟩) hlt).trans hc, (hb.cell (p := ⟨b, off + i * 3 + 1, none⟩) hlt).trans hd, (hb.cell (p := ⟨b, off + i * 3 + 2, none⟩) hlt).trans he⟩
def inB (x : Bnd) : Bool := decide (x.2.1 ≤ x.1) && decide (x.1 ≤ x.2.2)
def fitsTo (l : List Bnd) : Nat → Bool
  | 0 => true
  | k + 1 => fitsTo l k && inB (l.getD k (0, 0, 0))
theorem fitsTo_no (l : List Bnd) (k j : Nat) (h : inB (l.getD k (0, 0, 0)) = false) (hj : k < j) : fitsTo l j = false := by
  induction j with
  | zero => omega
  | succ j ih =>
    rw [fitsTo]
    by_cases e : k = j
    · subst e; rw [h]; simp
    · rw [ih (by omega)]; rfl
set_option maxHeartbeats 1000000 in
theorem fits_any (a : Option Addr) (cap : Nat) (l : List Bnd) (hl : l.length ≤ maxLen) (w : World) (ha : Bnds w a l) :
    Calls Try.prog 28 #[.slice a l.length cap] w fun e w' => e = .returned (.bool (fitsTo l l.length)) ∧ Below w.heap.size w w' := by
  unfold maxLen at hl
  have HA := Lib.hid ha
  clear ha
  go_enter Try.func28, Try.ntmps28
  go_wp2
  go_loopw [7] (fun i wr => ∃ k : Nat, k ≤ l.length ∧ i = .int .i64 k ∧ Hid (fitsTo l k = true) ∧ Below w.heap.size w wr) (fun i _ => l.length - (intOf i).toNat)
  case atStart => exact ⟨0, by omega, rfl, rfl, Below.refl _ _⟩
  case round =>
    obtain ⟨k, hk, rfl, HG, hb⟩ := hrel
    by_cases hlt : k < l.length
    · obtain ⟨b, off, rfl, hbl, hc, hd, he⟩ := (Bnds.below HA.out hb) k hlt
      have hlt1 : (k : Int) < (l.length : Int) := by omega
      have hgn : Hid (fitsTo l (k + 1) = (fitsTo l k && inB (l.getD k (0, 0, 0)))) := rfl
      have hgd : Hid (inB (l.getD k (0, 0, 0)) = (decide ((l.getD k (0, 0, 0)).2.1 ≤ (l.getD k (0, 0, 0)).1) && decide ((l.getD k (0, 0, 0)).1 ≤ (l.getD k (0, 0, 0)).2.2))) := rfl
      have hno : inB (l.getD k (0, 0, 0)) = false → Hid (fitsTo l l.length = false) := fun h => fitsTo_no l k l.length h hlt
      generalize (l.getD k (0, 0, 0)).1 = X at *
      generalize (l.getD k (0, 0, 0)).2.1 = F at *
      generalize (l.getD k (0, 0, 0)).2.2 = T at *
      by_cases g1 : F ≤ X
      · have d1 : decide (X < F) = false := decide_eq_false (by omega)
        have n1 : ¬ X < F := by omega
        by_cases g2 : X ≤ T
        · have d2 : decide (T < X) = false := decide_eq_false (by omega)
          have n2 : ¬ T < X := by omega
          have hg : Hid (fitsTo l (k + 1) = true) := by show fitsTo l (k + 1) = true; rw [hgn.out, HG.out, hgd.out, decide_eq_true g1, decide_eq_true g2]; rfl
          clear hno
          go_wp2
          go_roundw
          case rel => exact ⟨k + 1, by omega, by go_num, hg, below_al hb _⟩
          case measure => simp [intOf]; omega
        · have d2 : decide (T < X) = true := decide_eq_true (by omega)
          have n2 : T < X := by omega
          have hg := hno (by rw [hgd.out, decide_eq_true g1, decide_eq_false g2]; rfl)
          clear hno
          go_wp2
          go_ret
          exact ⟨by rw [hg.out]; rfl, below_al hb _⟩
      · have d1 : decide (X < F) = true := decide_eq_true (by omega)
        have n1 : X < F := by omega
        have hg := hno (by rw [hgd.out, decide_eq_false g1]; rfl)
        clear hno
        go_wp2
        go_ret
        exact ⟨by rw [hg.out]; rfl, below_al hb _⟩
    · have hke : k = l.length := by omega
      rw [hke] at HG
      clear hke
      go_wp2
      go_ret
      exact ⟨by rw [HG.out]; rfl, hb⟩
end Rec
end Go.Proofs.Ytblefohjnmmpmaa
