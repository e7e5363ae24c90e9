/- How many runs, how long runs, study and copies take: the package and the reference answer alike. -/
import Derived.Test.YtblefohjnmmpmaaRecG2
import Derived.IntWalk
namespace Go.Proofs.Ytblefohjnmmpmaa
open Go.RowKit
namespace Rec
/-- The steps of a study, each by its level. -/
def sT (x : Int) : Nat → Int
  | 0 => 0
  | k + 1 => sT x k + (x + ((k : Int) + 1))
theorem sT_two (x : Int) (k : Nat) : (x + k) * (x + k + 1) - x * (x + 1) = 2 * sT x k := by
  induction k with
  | zero => simp [sT]
  | succ k ih =>
    rw [sT]
    have e : x + ((k + 1 : Nat) : Int) = (x + k) + 1 := by omega
    rw [e]
    generalize hu : x + (k : Int) = u at *
    have e1 : (u + 1) * (u + 1 + 1) = u * (u + 1) + 2 * (u + 1) := by
      rw [Int.mul_comm 2 (u + 1), Int.mul_comm u (u + 1), ← Int.mul_add]
      congr 1
      omega
    rw [e1]
    generalize u * (u + 1) = P at *
    generalize x * (x + 1) = R at *
    omega
theorem sT_bd (x : Int) (k : Nat) (h1 : 0 ≤ x) (h2 : x ≤ 10) (hk : k ≤ 10) : 0 ≤ sT x k ∧ sT x k ≤ 200 := by
  have : ∀ k : Nat, k ≤ 10 → 0 ≤ sT x k ∧ sT x k ≤ 20 * k := by
    intro k
    induction k with
    | zero => intro _; exact ⟨Int.le_refl 0, Int.le_refl 0⟩
    | succ k ih =>
      intro hk
      have := ih (by omega)
      rw [sT]
      omega
  have := this k hk
  omega
theorem study_tri (x y : Int) (hy : 0 ≤ y) : (x + y) * (x + y + 1) - x * (x + 1) = 2 * sT x y.toNat := by
  have := sT_two x y.toNat
  rwa [Int.toNat_of_nonneg hy] at this
theorem study_bd (x y : Int) (hx1 : 0 ≤ x) (hx2 : x ≤ 10) (hy : 0 ≤ y) (hy2 : y ≤ 10) : 0 ≤ (x + y) * (x + y + 1) - x * (x + 1) ∧ (x + y) * (x + y + 1) - x * (x + 1) ≤ 400 := by
  rw [study_tri x y hy]
  have := sT_bd x y.toNat hx1 hx2 (by omega)
  omega
theorem study_eq (x y s : Int) (hy : 0 ≤ y) : s * ((x + y) * (x + y + 1) - x * (x + 1)) / 2 = s * sT x y.toNat := by
  rw [study_tri x y hy, Int.mul_left_comm]
  exact Int.mul_ediv_cancel_left _ (by decide)
set_option maxRecDepth 100000 in
set_option maxHeartbeats 4000000 in
theorem study_any (b : BlueIn) (x y : Int) (w : World) (hb : Came w b) :
    Calls Try.prog 18 #[.agg b.val, .int .i64 x, .int .i64 y] w fun e w' => e = .returned (.tuple #[.int .i64 (studyV b x y).1, .int .i64 (studyV b x y).2]) ∧ Below w.heap.size w w' := by
  have HB := Lib.hid hb
  have HS : Hid (studyV b x y = if ok2 b x 0 10 y 1 (wrap64 (10 - x)) then (b.study * ((x + y) * (x + y + 1) - x * (x + 1)) / 2, 0) else (0, 1)) := rfl
  have CM : Hid (∀ (W : World) (t : TypeId) (g : Nat), Below w.heap.size w W → g = W.heap.size → Calls Try.prog 24 #[.agg #[.int .i64 b.makes, .int .i64 b.per, .int .i64 b.time, .slice b.addr b.needs.length b.cap, .int .i64 b.copy, .int .i64 b.study, .int .i64 b.most], .slice (some ⟨g, 0, none⟩) 2 2] (W.alloc (.cells #[.int .i64 x, .int .i64 0, .int .i64 10, .int .i64 y, .int .i64 1, .int .i64 (wrap64 (10 - x))] t)) fun e w' => e = .returned (.bool (ok2 b x 0 10 y 1 (wrap64 (10 - x)))) ∧ Below W.heap.size W w') := fun W t g hW hg => may_two b (x) (0) (10) (y) (1) ((wrap64 (10 - x))) W (HB.out.below hW) t g hg
  have HY : Hid (ok2 b x 0 10 y 1 (wrap64 (10 - x)) = true → _) := fun h => ok2_yes h
  generalize ok2 b x 0 10 y 1 (wrap64 (10 - x)) = M at *
  unfold BlueIn.val
  clear hb
  have hbw := Lib.hid ((Below.refl w.heap.size w).alloc (Nat.le_refl _) (.cells #[.int .i64 b.makes, .int .i64 b.per, .int .i64 b.time, .slice b.addr b.needs.length b.cap, .int .i64 b.copy, .int .i64 b.study, .int .i64 b.most] 24))
  cases M
  · have HV : Hid (studyV b x y = (0, 1)) := HS.out
    generalize studyV b x y = V at *
    go_enter Try.func18, Try.ntmps18
    go_wp2_with (go_at_call 24; ((with_reducible refine (CM.out _ _ _ hbw.out (by simp)).mono ?_); rintro e w1 ⟨rfl, hb1⟩))
    go_ret2
    exact ⟨by rw [HV.out]; rfl, hbw.out.trans (hb1.mono (by simp))⟩
  · have HV : Hid (studyV b x y = (b.study * ((x + y) * (x + y + 1) - x * (x + 1)) / 2, 0)) := HS.out
    generalize studyV b x y = V at *
    obtain ⟨hK, ⟨hx1, hx2⟩, hy1, hy2⟩ := HY.out rfl
    obtain ⟨_, _, ⟨hp1, hp2⟩, ⟨ht1, ht2⟩, ⟨hc1, hc2⟩, ⟨hs1, hs2⟩, ⟨hm1, hm2⟩, _⟩ := bchk_ok b 32 hK
    have hw : wrap64 (10 - x) = 10 - x := by unfold wrap64; omega
    have hA := study_tri x y (by omega)
    have hB := study_bd x y hx1 hx2 (by omega) (by omega)
    have Q2 : Hid (wrap64 (Int.tdiv (wrap64 (b.study * wrap64 (wrap64 (wrap64 (x + y) * wrap64 (wrap64 (x + y) + 1)) - wrap64 (x * wrap64 (x + 1))))) 2) = b.study * ((x + y) * (x + y + 1) - x * (x + 1)) / 2) := by
      show wrap64 (Int.tdiv (wrap64 (b.study * wrap64 (wrap64 (wrap64 (x + y) * wrap64 (wrap64 (x + y) + 1)) - wrap64 (x * wrap64 (x + 1))))) 2) = _
      have e1 : wrap64 (x + y) = x + y := by unfold wrap64; omega
      have e2 : wrap64 (x + y + 1) = x + y + 1 := by unfold wrap64; omega
      have e3 : wrap64 (x + 1) = x + 1 := by unfold wrap64; omega
      rw [e1, e2, e3]
      have m1 := mul_bd (show 0 ≤ x + y by omega) (show x + y ≤ 10 by omega) (show 0 ≤ x + y + 1 by omega) (show x + y + 1 ≤ 11 by omega)
      have m2 := mul_bd hx1 hx2 (show 0 ≤ x + 1 by omega) (show x + 1 ≤ 11 by omega)
      have e4 : wrap64 ((x + y) * (x + y + 1)) = (x + y) * (x + y + 1) := by generalize (x + y) * (x + y + 1) = P at *; unfold wrap64; omega
      have e5 : wrap64 (x * (x + 1)) = x * (x + 1) := by generalize x * (x + 1) = P at *; unfold wrap64; omega
      rw [e4, e5]
      generalize (x + y) * (x + y + 1) = P at *
      generalize x * (x + 1) = R at *
      have e6 : wrap64 (P - R) = P - R := by unfold wrap64; omega
      rw [e6]
      have m3 := mul_bd hs1 hs2 hB.1 hB.2
      have e7 : wrap64 (b.study * (P - R)) = b.study * (P - R) := by generalize b.study * (P - R) = Z at *; unfold wrap64; omega
      rw [e7]
      rw [Int.tdiv_eq_ediv_of_nonneg m3.1]
      generalize b.study * (P - R) = Z at *; unfold wrap64; omega
    clear hw hA hB hy1 hy2
    clear hK hx1 hx2 hp1 hp2 ht1 ht2 hc1 hc2 hs1 hs2 hm1 hm2
    go_enter Try.func18, Try.ntmps18
    go_wp2_with (first
      | (go_at_call 24; ((with_reducible refine (CM.out _ _ _ hbw.out (by simp)).mono ?_); rintro e w1 ⟨rfl, hb1⟩; have hb1' := hbw.out.trans (hb1.mono (by simp)); have c5 := box_cell hb1 5; simp only [List.getElem?_toArray, List.getElem?_cons_zero, List.getElem?_cons_succ] at c5)))
    go_ret2
    exact ⟨by rw [HV.out, ← Q2.out]; rfl, hb1'⟩
end Rec
end Go.Proofs.Ytblefohjnmmpmaa
