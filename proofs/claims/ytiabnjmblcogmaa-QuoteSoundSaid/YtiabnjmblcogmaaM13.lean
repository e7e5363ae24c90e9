/- Texts put together: RecG3, FeeR, FeeS, FeeB, QuoP. -/
import Derived.Test.YtiabnjmblcogmaaM12
import Derived.Test.YtiabnjmblcogmaaChecked
import Derived.WalkKit
import Derived.ProofKit
import Derived.Below
import Derived.WalkLawsBesides
import Derived.Lib.Hide
import Derived.Test.YtiabnjmblcogmaaM02
import Derived.Test.YtiabnjmblcogmaaM11
import Derived.Test.YtiabnjmblcogmaaM10
set_option linter.all false
section
namespace Go.Proofs.Ytiabnjmblcogmaa
open Go.RowKit
namespace Rec
set_option maxRecDepth 100000 in
set_option maxHeartbeats 4000000 in
theorem time_any (b : BlueIn) (x y : Int) (w : World) (hb : Came w b) :
    Calls Try.prog 47 #[.agg b.val, .int .i64 x, .int .i64 y] w fun e w' => e = .returned (.tuple #[.int .i64 (timeV b x y).1, .int .i64 (timeV b x y).2]) ∧ Below w.heap.size w w' := by
  have HB := Lib.hid hb
  have HS : Hid (timeV b x y = if ok2 b x 0 10 y 1 1000 then (upI (b.time * y * (100 - 2 * x)) 100, 0) else (0, 1)) := rfl
  have CM : Hid (∀ (W : World) (t : TypeId) (g : Nat), Below w.heap.size w W → g = W.heap.size → Calls Try.prog 69 #[.agg #[.int .i64 b.makes, .int .i64 b.per, .int .i64 b.time, .slice b.addr b.needs.length b.cap, .int .i64 b.copy, .int .i64 b.study, .int .i64 b.most], .slice (some ⟨g, 0, none⟩) 2 2] (W.alloc (.cells #[.int .i64 x, .int .i64 0, .int .i64 10, .int .i64 y, .int .i64 1, .int .i64 1000] t)) fun e w' => e = .returned (.bool (ok2 b x 0 10 y 1 1000)) ∧ Below W.heap.size W w') := fun W t g hW hg => may_two b (x) (0) (10) (y) (1) (1000) W (HB.out.below hW) t g hg
  have HY : Hid (ok2 b x 0 10 y 1 1000 = true → _) := fun h => ok2_yes h
  generalize ok2 b x 0 10 y 1 1000 = M at *
  unfold BlueIn.val
  clear hb
  have hbw := Lib.hid ((Below.refl w.heap.size w).alloc (Nat.le_refl _) (.cells #[.int .i64 b.makes, .int .i64 b.per, .int .i64 b.time, .slice b.addr b.needs.length b.cap, .int .i64 b.copy, .int .i64 b.study, .int .i64 b.most] 51))
  cases M
  · have HV : Hid (timeV b x y = (0, 1)) := HS.out
    generalize timeV b x y = V at *
    go_enter Try.func47, Try.ntmps47
    go_wp2_with (go_at_call 69; ((with_reducible refine (CM.out _ _ _ hbw.out (by simp)).mono ?_); rintro e w1 ⟨rfl, hb1⟩))
    go_ret2
    exact ⟨by rw [HV.out]; rfl, hbw.out.trans (hb1.mono (by simp))⟩
  · have HV : Hid (timeV b x y = (upI (b.time * y * (100 - 2 * x)) 100, 0)) := HS.out
    generalize timeV b x y = V at *
    obtain ⟨hK, ⟨hx1, hx2⟩, hy1, hy2⟩ := HY.out rfl
    obtain ⟨_, _, ⟨hp1, hp2⟩, ⟨ht1, ht2⟩, ⟨hc1, hc2⟩, ⟨hs1, hs2⟩, ⟨hm1, hm2⟩, _⟩ := bchk_ok b 32 hK
    have hP := mul_bd (show 0 ≤ b.time by omega) ht2 (show 0 ≤ y by omega) hy2
    have hQ := mul_bd hP.1 hP.2 (show 0 ≤ 100 - 2 * x by omega) (show 100 - 2 * x ≤ 100 by omega)
    obtain ⟨P1, q1, z1⟩ : ∃ P, wrap64 (b.time * y) = P ∧ P = b.time * y := ⟨_, by generalize b.time * y = P at *; unfold wrap64; omega, rfl⟩
    obtain ⟨P2, q2, z2⟩ : ∃ P, wrap64 (2 * x) = P ∧ P = 2 * x := ⟨_, by unfold wrap64; omega, rfl⟩
    obtain ⟨P3, q3, z3⟩ : ∃ P, wrap64 (100 - P2) = P ∧ P = 100 - 2 * x := ⟨_, by unfold wrap64; omega, rfl⟩
    rw [← z1, ← z3] at hQ HV
    rw [← z1] at hP
    have z3' : 0 ≤ P3 ∧ P3 ≤ 100 := by omega
    have CS : Hid (∀ W : World, Calls Try.prog 70 #[.int .i64 P1, .int .i64 P3, .int .i64 100, .bool true] W fun e w' => e = .returned (.tuple #[.int .i64 (upI (P1 * P3) 100), .int .i64 0]) ∧ Below W.heap.size W w') := fun W => scale_int _ _ 100 hP.1 (by omega) (by omega) (by omega) (by omega) (by generalize P1 * P3 = P at *; omega) W
    generalize upI (P1 * P3) 100 = U at *
    clear hQ hP hy1 hy2 z1 z2 z3 z3'
    clear hK hx1 hx2 hp1 hp2 ht1 ht2 hc1 hc2 hs1 hs2 hm1 hm2
    go_enter Try.func47, Try.ntmps47
    go_wp2_with (first
      | (go_at_call 69; ((with_reducible refine (CM.out _ _ _ hbw.out (by simp)).mono ?_); rintro e w1 ⟨rfl, hb1⟩; have hb1' := hbw.out.trans (hb1.mono (by simp)); have c2 := box_cell hb1 2; simp only [List.getElem?_toArray, List.getElem?_cons_zero, List.getElem?_cons_succ] at c2))
      | (go_at_call 70; ((with_reducible refine (CS.out _).mono ?_); rintro e w2 ⟨rfl, hb2⟩)))
    go_ret2
    exact ⟨by rw [HV.out]; rfl, below2 hb1' hb2⟩
set_option maxRecDepth 100000 in
set_option maxHeartbeats 4000000 in
theorem refTime_any (b : BlueIn) (x y : Int) (w : World) (hb : Came w b) :
    Calls Try.prog 44 #[.agg b.val, .int .i64 x, .int .i64 y] w fun e w' => e = .returned (.tuple #[.int .i64 (timeV b x y).1, .int .i64 (timeV b x y).2]) ∧ Below w.heap.size w w' := by
  have HB := Lib.hid hb
  have HS : Hid (timeV b x y = if (decide (bchk b 32 = 0) && (inB (x, 0, 10) && inB (y, 1, 1000))) then (upI (b.time * y * (100 - 2 * x)) 100, 0) else (0, 1)) := rfl
  have CK : Hid (∀ (W : World), Below w.heap.size w W → Calls Try.prog 61 #[.agg #[.int .i64 b.makes, .int .i64 b.per, .int .i64 b.time, .slice b.addr b.needs.length b.cap, .int .i64 b.copy, .int .i64 b.study, .int .i64 b.most], .int .i64 32] W fun e w' => e = .returned (.int .i64 (bchk b 32)) ∧ Below W.heap.size W w') := fun W hW => refCheck12_any b 32 W (HB.out.below hW)
  have I0 : Hid (∀ W : World, Calls Try.prog 66 #[.int .i64 (x), .int .i64 (0), .int .i64 (10)] W fun e w' => e = .returned (.bool (inB (x, 0, 10))) ∧ W = w') := in_any _ _ _
  have J0 : Hid (inB (x, 0, 10) = true → _) := fun h => inB_ok h
  have I1 : Hid (∀ W : World, Calls Try.prog 66 #[.int .i64 (y), .int .i64 (1), .int .i64 (1000)] W fun e w' => e = .returned (.bool (inB (y, 1, 1000))) ∧ W = w') := in_any _ _ _
  have J1 : Hid (inB (y, 1, 1000) = true → _) := fun h => inB_ok h
  have HK : Hid (bchk b 32 = 0 → _) := fun h => bchk_ok b 32 h
  have H2 : Hid (bchk b 32 = 0 ∨ bchk b 32 = 1) := bchk_two b 32
  generalize bchk b 32 = K at *
  generalize inB (x, 0, 10) = F0 at *
  generalize inB (y, 1, 1000) = F1 at *
  unfold BlueIn.val
  clear hb
  have hbw := Lib.hid ((Below.refl w.heap.size w).alloc (Nat.le_refl _) (.cells #[.int .i64 b.makes, .int .i64 b.per, .int .i64 b.time, .slice b.addr b.needs.length b.cap, .int .i64 b.copy, .int .i64 b.study, .int .i64 b.most] 51))
  rcases H2.out with rfl | rfl
  case inr =>
    have HV : Hid (timeV b x y = (0, 1)) := HS.out
    generalize timeV b x y = V at *
    go_enter Try.func44, Try.ntmps44
    go_wp2_with (first | (go_at_call 61; ((with_reducible refine (CK.out _ hbw.out).mono ?_); rintro e w1 ⟨rfl, hb1⟩; have hb1' := hbw.out.trans (hb1.mono (by simp)); have c2 := box_cell hb1 2; simp only [List.getElem?_toArray, List.getElem?_cons_zero, List.getElem?_cons_succ] at c2)))
    go_ret2
    exact ⟨by rw [HV.out]; rfl, hb1'⟩
  cases F0
  case false =>
    have HV : Hid (timeV b x y = (0, 1)) := HS.out
    generalize timeV b x y = V at *
    go_enter Try.func44, Try.ntmps44
    go_wp2_with (first | (go_at_call 61; ((with_reducible refine (CK.out _ hbw.out).mono ?_); rintro e w1 ⟨rfl, hb1⟩; have hb1' := hbw.out.trans (hb1.mono (by simp)); have c2 := box_cell hb1 2; simp only [List.getElem?_toArray, List.getElem?_cons_zero, List.getElem?_cons_succ] at c2)) | (go_at_call 66; ((first | (with_reducible refine (I0.out _).mono ?_)); rintro e w2 ⟨rfl, rfl⟩)))
    go_ret2
    exact ⟨by rw [HV.out]; rfl, hb1'⟩
  cases F1
  case false =>
    have HV : Hid (timeV b x y = (0, 1)) := HS.out
    generalize timeV b x y = V at *
    go_enter Try.func44, Try.ntmps44
    go_wp2_with (first | (go_at_call 61; ((with_reducible refine (CK.out _ hbw.out).mono ?_); rintro e w1 ⟨rfl, hb1⟩; have hb1' := hbw.out.trans (hb1.mono (by simp)); have c2 := box_cell hb1 2; simp only [List.getElem?_toArray, List.getElem?_cons_zero, List.getElem?_cons_succ] at c2)) | (go_at_call 66; ((first | (with_reducible refine (I0.out _).mono ?_) | (with_reducible refine (I1.out _).mono ?_)); rintro e w2 ⟨rfl, rfl⟩)))
    go_ret2
    exact ⟨by rw [HV.out]; rfl, hb1'⟩
  have HV : Hid (timeV b x y = (upI (b.time * y * (100 - 2 * x)) 100, 0)) := HS.out
  generalize timeV b x y = V at *
  obtain ⟨_, _, ⟨hp1, hp2⟩, ⟨ht1, ht2⟩, ⟨hc1, hc2⟩, ⟨hs1, hs2⟩, ⟨hm1, hm2⟩, _⟩ := HK.out rfl
  obtain ⟨hx1, hx2⟩ := J0.out rfl
  obtain ⟨hy1, hy2⟩ := J1.out rfl
  have hP := mul_bd (show 0 ≤ b.time by omega) ht2 (show 0 ≤ y by omega) hy2
  have hQ := mul_bd hP.1 hP.2 (show 0 ≤ 100 - 2 * x by omega) (show 100 - 2 * x ≤ 100 by omega)
  obtain ⟨P1, q1, z1⟩ : ∃ P, wrap64 (b.time * y) = P ∧ P = b.time * y := ⟨_, by generalize b.time * y = P at *; unfold wrap64; omega, rfl⟩
  obtain ⟨P2, q2, z2⟩ : ∃ P, wrap64 (2 * x) = P ∧ P = 2 * x := ⟨_, by unfold wrap64; omega, rfl⟩
  obtain ⟨P3, q3, z3⟩ : ∃ P, wrap64 (100 - P2) = P ∧ P = 100 - 2 * x := ⟨_, by unfold wrap64; omega, rfl⟩
  rw [← z1, ← z3] at hQ HV
  rw [← z1] at hP
  have z3' : 0 ≤ P3 ∧ P3 ≤ 100 := by omega
  obtain ⟨P4, q4, z4⟩ : ∃ P, wrap64 (P1 * P3) = P ∧ P = P1 * P3 := ⟨_, by generalize P1 * P3 = P at *; unfold wrap64; omega, rfl⟩
  rw [← z4] at hQ HV
  have CS : Hid (∀ W : World, Calls Try.prog 67 #[.int .i64 P4, .int .i64 100] W fun e w' => e = .returned (.int .i64 (upI P4 100)) ∧ W = w') := fun W => up_int _ 100 hQ.1 (by omega) (by omega) (by omega) W
  generalize upI P4 100 = U at *
  clear hQ hP hy1 hy2 z1 z2 z3 z3' z4
  clear hx1 hx2 hp1 hp2 ht1 ht2 hc1 hc2 hs1 hs2 hm1 hm2
  go_enter Try.func44, Try.ntmps44
  go_wp2_with (first | (go_at_call 61; ((with_reducible refine (CK.out _ hbw.out).mono ?_); rintro e w1 ⟨rfl, hb1⟩; have hb1' := hbw.out.trans (hb1.mono (by simp)); have c2 := box_cell hb1 2; simp only [List.getElem?_toArray, List.getElem?_cons_zero, List.getElem?_cons_succ] at c2)) | (go_at_call 66; ((first | (with_reducible refine (I0.out _).mono ?_) | (with_reducible refine (I1.out _).mono ?_)); rintro e w2 ⟨rfl, rfl⟩)) | (go_at_call 67; ((with_reducible refine (CS.out _).mono ?_); rintro e w2 ⟨rfl, rfl⟩)))
  go_ret2
  exact ⟨by rw [HV.out]; rfl, hb1'⟩
end Rec
end Go.Proofs.Ytiabnjmblcogmaa
end
section
namespace Go.Proofs.Ytiabnjmblcogmaa
open Go.RowKit
namespace Fee
theorem i64_and1 (n : Int) : bits .and .i64 n 1 = n % 2 := by
  show IntKind.i64.wrap ((BitVec.ofInt 64 n &&& BitVec.ofInt 64 1).toNat : Int) = _
  rw [BitVec.toNat_and, show (BitVec.ofInt 64 1).toNat = 2 ^ 1 - 1 from rfl, Nat.and_two_pow_sub_one_eq_mod, BitVec.toNat_ofInt, IntKind.wrap_i64]
  have h : ((n % ((2 ^ 64 : Nat) : Int)).toNat : Int) = n % ((2 ^ 64 : Nat) : Int) := Int.toNat_of_nonneg (Int.emod_nonneg _ (by decide))
  have h2 : (((n % ((2 ^ 64 : Nat) : Int)).toNat % 2 ^ 1 : Nat) : Int) = n % 2 := by
    rw [Int.natCast_emod, h]
    omega
  rw [h2]
  omega
theorem bit_of (b k : Nat) : (bits .and .i64 ((b : Int) / 2 ^ k) 1 == 1) = decide (b / 2 ^ k % 2 = 1) := by
  have e : ((b : Int) / 2 ^ k) = ((b / 2 ^ k : Nat) : Int) := by rw [Int.natCast_ediv, Int.natCast_pow]; rfl
  rw [e, i64_and1]
  generalize b / 2 ^ k = x
  rcases Nat.mod_two_eq_zero_or_one x with h | h
  · rw [show ((x : Int) % 2) = 0 by omega, h]; rfl
  · rw [show ((x : Int) % 2) = 1 by omega, h]; rfl
theorem div_of {X n l c : Nat} (h : X = n * c + l) (hl : l < c) : X / c = n ∧ X % c = l := by
  subst h
  have hc : 0 < c := by omega
  constructor
  · rw [Nat.mul_comm, Nat.mul_add_div hc, Nat.div_eq_of_lt hl]; rfl
  · rw [Nat.mul_comm, Nat.mul_add_mod, Nat.mod_eq_of_lt hl]
/-- Twice. -/
theorem twice (X c : Nat) (hc : 0 < c) : (c ≤ 2 * (X % c) → 2 * X / c = 2 * (X / c) + 1 ∧ 2 * X % c = 2 * (X % c) - c) ∧ (¬ c ≤ 2 * (X % c) → 2 * X / c = 2 * (X / c) ∧ 2 * X % c = 2 * (X % c)) := by
  have e := Nat.div_add_mod X c
  have hl := Nat.mod_lt X hc
  generalize X / c = q at *
  generalize X % c = r at *
  subst e
  constructor
  · intro h
    exact div_of (by rw [Nat.add_mul, Nat.one_mul, Nat.mul_assoc, Nat.mul_comm q c, Nat.mul_add]; omega) (by omega)
  · intro h
    exact div_of (by rw [Nat.mul_assoc, Nat.mul_comm q c, Nat.mul_add]) (by omega)
/-- And once more. -/
theorem more (Y a c : Nat) (hc : 0 < c) : (c ≤ Y % c + a % c → (Y + a) / c = Y / c + a / c + 1 ∧ (Y + a) % c = Y % c + a % c - c) ∧ (¬ c ≤ Y % c + a % c → (Y + a) / c = Y / c + a / c ∧ (Y + a) % c = Y % c + a % c) := by
  have e := Nat.div_add_mod Y c
  have hl := Nat.mod_lt Y hc
  have e2 := Nat.div_add_mod a c
  have hl2 := Nat.mod_lt a hc
  generalize Y / c = q at *
  generalize Y % c = r at *
  generalize a / c = q2 at *
  generalize a % c = r2 at *
  subst e
  subst e2
  constructor
  · intro h
    exact div_of (by rw [Nat.add_mul, Nat.add_mul, Nat.one_mul, Nat.mul_comm q c, Nat.mul_comm q2 c]; omega) (by omega)
  · intro h
    exact div_of (by rw [Nat.add_mul, Nat.mul_comm q c, Nat.mul_comm q2 c]; omega) (by omega)
theorem half (b k : Nat) : b / 2 ^ k = 2 * (b / 2 ^ (k + 1)) + b / 2 ^ k % 2 := by
  rw [Nat.pow_succ, ← Nat.div_div_eq_div_mul]
  omega
end Fee
end Go.Proofs.Ytiabnjmblcogmaa
end
section
namespace Go.Proofs.Ytiabnjmblcogmaa
open Go.RowKit
namespace Fee
theorem quo_mono {a B b c : Nat} (h : B ≤ b) (hb : b ≤ c) (hc : 0 < c) : a * B / c ≤ a := by
  have : a * B ≤ a * c := Nat.mul_le_mul_left a (Nat.le_trans h hb)
  exact Nat.le_trans (Nat.div_le_div_right this) (by rw [Nat.mul_div_cancel _ hc]; exact Nat.le_refl _)
/-- One step, with its numbers as they are reckoned. -/
theorem step (a b c k : Nat) (hbc : b ≤ c) (hc0 : 0 < c) :
    (a * (b / 2 ^ (k + 1)) / c ≤ a ∧ a * (b / 2 ^ (k + 1)) % c < c) ∧
    (c ≤ 2 * (a * (b / 2 ^ (k + 1)) % c) → 2 * (a * (b / 2 ^ (k + 1))) / c = 2 * (a * (b / 2 ^ (k + 1)) / c) + 1 ∧ 2 * (a * (b / 2 ^ (k + 1))) % c = 2 * (a * (b / 2 ^ (k + 1)) % c) - c) ∧
    (¬ c ≤ 2 * (a * (b / 2 ^ (k + 1)) % c) → 2 * (a * (b / 2 ^ (k + 1))) / c = 2 * (a * (b / 2 ^ (k + 1)) / c) ∧ 2 * (a * (b / 2 ^ (k + 1))) % c = 2 * (a * (b / 2 ^ (k + 1)) % c)) ∧
    (2 * (a * (b / 2 ^ (k + 1))) % c < c) ∧
    (b / 2 ^ k % 2 = 0 → a * (b / 2 ^ k) = 2 * (a * (b / 2 ^ (k + 1)))) ∧
    (b / 2 ^ k % 2 = 1 → (c ≤ 2 * (a * (b / 2 ^ (k + 1))) % c + a % c → a * (b / 2 ^ k) / c = 2 * (a * (b / 2 ^ (k + 1))) / c + a / c + 1 ∧ a * (b / 2 ^ k) % c = 2 * (a * (b / 2 ^ (k + 1))) % c + a % c - c) ∧
      (¬ c ≤ 2 * (a * (b / 2 ^ (k + 1))) % c + a % c → a * (b / 2 ^ k) / c = 2 * (a * (b / 2 ^ (k + 1))) / c + a / c ∧ a * (b / 2 ^ k) % c = 2 * (a * (b / 2 ^ (k + 1))) % c + a % c)) ∧
    a * (b / 2 ^ k) / c ≤ a := by
  have hh := half b k
  have T := twice (a * (b / 2 ^ (k + 1))) c hc0
  have M := more (2 * (a * (b / 2 ^ (k + 1)))) a c hc0
  refine ⟨⟨quo_mono (Nat.div_le_self _ _) hbc hc0, Nat.mod_lt _ hc0⟩, T.1, T.2, Nat.mod_lt _ hc0, fun h => ?_, fun h => ?_, quo_mono (Nat.div_le_self _ _) hbc hc0⟩
  · rw [hh, h, Nat.add_zero, Nat.mul_left_comm]
  · have e : a * (b / 2 ^ k) = 2 * (a * (b / 2 ^ (k + 1))) + a := by rw [hh, h, Nat.mul_add, Nat.mul_one, Nat.mul_left_comm]
    rw [e]
    exact M
set_option maxHeartbeats 8000000 in
theorem refScale_small (a b c : Nat) (up : Bool) (ha : a ≤ 1152921504606846976) (hbc : b ≤ c) (hc0 : 1 ≤ c) (hc : c ≤ 1152921504606846976) (w : World) :
    Calls Try.prog 54 #[.int .i64 (a : Int), .int .i64 (b : Int), .int .i64 (c : Int), .bool up] w fun e w' => e = .returned (.tuple #[.int .i64 ((Div.scl a b c up : Nat) : Int), .int .i64 0]) ∧ w = w' := by
  have d1 : decide ((a : Int) < 0) = false := decide_eq_false (by omega)
  have d2 : decide ((b : Int) < 0) = false := decide_eq_false (by omega)
  have d3 : decide ((c : Int) < 1) = false := decide_eq_false (by omega)
  have ca : IntKind.u64.wrap (a : Int) = a := by rw [Div.w64]; omega
  have cc : IntKind.u64.wrap (c : Int) = c := by rw [Div.w64]; omega
  have nc : ¬ (c : Int) = 0 := by omega
  have HA : Hid (a ≤ 1152921504606846976 ∧ b ≤ c ∧ 1 ≤ c ∧ c ≤ 1152921504606846976) := ⟨ha, hbc, hc0, hc⟩
  obtain ⟨A, hA⟩ : ∃ A : Int, Hid ((a : Int) = A) := ⟨_, rfl⟩
  obtain ⟨C, hC⟩ : ∃ A : Int, Hid ((c : Int) = A) := ⟨_, rfl⟩
  rw [hA.out] at d1 ca ⊢
  rw [hC.out] at d3 cc nc ⊢
  clear ha hbc hc0 hc
  go_enter Try.func54, Try.ntmps54
  go_wp2
  go_loop [10, 11, 13] (fun n l i => ∃ (z : Int) (j : Nat) (N L : Int), i = .int .i64 z ∧ Hid (z = (j : Int) - 1 ∧ j ≤ 63) ∧ n = .int .u64 N ∧ l = .int .u64 L ∧ Hid (N = ((a * (b / 2 ^ j) / c : Nat) : Int)) ∧ Hid (L = ((a * (b / 2 ^ j) % c : Nat) : Int))) (fun _ _ i => (intOf i + 1).toNat)
  case atStart =>
    have hb0 : b / 2 ^ 63 = 0 := Nat.div_eq_of_lt (by have := HA.out; omega)
    exact ⟨62, 63, 0, 0, rfl, ⟨rfl, Nat.le_refl _⟩, rfl, rfl, by show (0 : Int) = _; rw [hb0]; simp, by show (0 : Int) = _; rw [hb0]; simp⟩
  case round =>
    obtain ⟨z, j, N, L, rfl, HJ, rfl, rfl, HN, HL⟩ := hrel
    cases j with
    | zero =>
      obtain rfl : z = -1 := by have := HJ.out.1; simpa using this
      have e1 : a * (b / 2 ^ 0) = a * b := by simp
      rw [e1] at HN HL
      have hsc : Hid (Div.scl a b c up = a * b / c + if up && decide (0 < a * b % c) then 1 else 0) := rfl
      have hq := quo_mono (a := a) (Nat.le_refl b) HA.out.2.1 HA.out.2.2.1
      have ha := HA.out.1
      generalize a * b / c = N' at *
      generalize a * b % c = L' at *
      have hN := HN.out
      have hL := HL.out
      have d4 : decide ((9223372036854775807 : Int) < N) = false := decide_eq_false (by omega)
      obtain ⟨M, q1, hM⟩ : ∃ P, IntKind.u64.wrap (N + 1) = P ∧ P = N + 1 := ⟨_, by rw [Div.w64]; omega, rfl⟩
      have d5 : decide ((9223372036854775807 : Int) < M) = false := decide_eq_false (by omega)
      have q2 : wrap64 N = N := by unfold wrap64; omega
      have q3 : wrap64 M = M := by unfold wrap64; omega
      cases up
      · have hR : Hid (((Div.scl a b c false : Nat) : Int) = N) := by show _ = _; rw [show Div.scl a b c false = N' from hsc.out, hN]
        clear hM hq ha hN hL
        go_wp2
        go_ret2
        exact ⟨by rw [hR.out]; rfl, rfl⟩
      · by_cases hL2 : 0 < L
        · have hR : Hid (((Div.scl a b c true : Nat) : Int) = M) := by show _ = _; rw [hsc.out, decide_eq_true (show 0 < L' by omega), hM, hN]; simp
          have d6 : decide ((0 : Int) < L) = true := decide_eq_true hL2
          clear hM hq ha hN hL hL2
          go_wp2
          go_ret2
          exact ⟨by rw [hR.out]; rfl, rfl⟩
        · have hR : Hid (((Div.scl a b c true : Nat) : Int) = N) := by show _ = _; rw [hsc.out, decide_eq_false (show ¬ 0 < L' by omega), hN]; simp
          have d6 : decide ((0 : Int) < L) = false := decide_eq_false hL2
          clear hM hq ha hN hL hL2
          go_wp2
          go_ret2
          exact ⟨by rw [hR.out]; rfl, rfl⟩
    | succ k =>
      obtain rfl : z = (k : Int) := by have := HJ.out.1; omega
      have dz : decide ((0 : Int) ≤ (k : Int)) = true := decide_eq_true (by omega)
      have QZ : Hid (wrap64 ((k : Int) - 1) = (k : Int) - 1) := by show _ = _; have := HJ.out.2; unfold wrap64; omega
      have hbit : (bits .and .i64 ((b : Int) / 2 ^ min k 64) 1 == 1) = decide (b / 2 ^ k % 2 = 1) := by rw [Nat.min_eq_left (show k ≤ 64 by have := HJ.out.2; omega)]; exact bit_of b k
      have ST := Lib.hid (step a b c k HA.out.2.1 HA.out.2.2.1)
      have hN := HN.out
      have hL := HL.out
      have b1 := ST.out.1
      have hA2 := HA.out
      have hCc := hC.out
      generalize a * (b / 2 ^ (k + 1)) / c = n0 at *
      generalize a * (b / 2 ^ (k + 1)) % c = l0 at *
      have d4 : decide ((9223372036854775807 : Int) < N) = false := decide_eq_false (by omega)
      obtain ⟨N1, m1, z1⟩ : ∃ P, IntKind.u64.wrap (2 * N) = P ∧ P = 2 * N := ⟨_, by rw [Div.w64]; omega, rfl⟩
      obtain ⟨L1, m2, z2⟩ : ∃ P, IntKind.u64.wrap (2 * L) = P ∧ P = 2 * L := ⟨_, by rw [Div.w64]; omega, rfl⟩
      by_cases g1 : C ≤ L1
      · have dg : decide (C ≤ L1) = true := decide_eq_true g1
        obtain ⟨L2, m3, z3⟩ : ∃ P, IntKind.u64.wrap (L1 - C) = P ∧ P = L1 - C := ⟨_, by rw [Div.w64]; omega, rfl⟩
        obtain ⟨N2, m4, z4⟩ : ∃ P, IntKind.u64.wrap (N1 + 1) = P ∧ P = N1 + 1 := ⟨_, by rw [Div.w64]; omega, rfl⟩
        have d7 : decide ((9223372036854775807 : Int) < N2) = false := decide_eq_false (by omega)
        have hTT := ST.out.2.1 (by omega)
        have EN : Hid (N2 = ((2 * (a * (b / 2 ^ (k + 1))) / c : Nat) : Int)) := by show N2 = _; rw [hTT.1]; omega
        have EL : Hid (L2 = ((2 * (a * (b / 2 ^ (k + 1))) % c : Nat) : Int)) := by show L2 = _; rw [hTT.2]; omega
        have bN2 : Hid (0 ≤ N2 ∧ N2 ≤ 2305843009213693953) := by show _ ∧ _; omega
        clear g1 hTT z1 z2 z3 z4 hN hL b1 hA2 hCc
        cases hbt : decide (b / 2 ^ k % 2 = 1)
        · have hb0 : b / 2 ^ k % 2 = 0 := by have := of_decide_eq_false hbt; omega
          rw [hbt] at hbit
          have hX := ST.out.2.2.2.2.1 hb0
          have RN : Hid (N2 = ((a * (b / 2 ^ k) / c : Nat) : Int)) := by show N2 = _; rw [hX]; exact EN.out
          have RL : Hid (L2 = ((a * (b / 2 ^ k) % c : Nat) : Int)) := by show L2 = _; rw [hX]; exact EL.out
          clear hbt hb0 hX
          go_wp2
          go_round
          case rel => exact ⟨(k : Int) - 1, k, N2, L2, by rw [QZ.out], ⟨rfl, by have := HJ.out.2; omega⟩, rfl, rfl, RN, RL⟩
          case measure =>
            simp only [intOf]
            rw [QZ.out]
            omega
        · have hb1 : b / 2 ^ k % 2 = 1 := of_decide_eq_true hbt
          rw [hbt] at hbit
          obtain ⟨Q, qQ, zQ⟩ : ∃ P : Int, IntKind.u64.wrap (A.tdiv C) = P ∧ P = ((a / c : Nat) : Int) := ⟨_, by rw [← hA.out, ← hC.out, Div.w64, ← Int.ofNat_tdiv]; have := Nat.div_le_self a c; have := HA.out.1; generalize a / c = y at *; omega, rfl⟩
          obtain ⟨R, qR, zR⟩ : ∃ P : Int, A.tmod C = P ∧ P = ((a % c : Nat) : Int) := ⟨_, by rw [← hA.out, ← hC.out, ← Int.ofNat_tmod], rfl⟩
          have hq1 := Nat.div_le_self a c
          have hr1 := Nat.mod_lt a HA.out.2.2.1
          have hl2 := ST.out.2.2.2.1
          have hX := ST.out.2.2.2.2.2.1 hb1
          have hN2 := EN.out
          have hL2 := EL.out
          have bb := bN2.out
          have hA2 := HA.out
          have hCc := hC.out
          generalize a / c = q' at *
          generalize a % c = r' at *
          generalize 2 * (a * (b / 2 ^ (k + 1))) / c = n2 at *
          generalize 2 * (a * (b / 2 ^ (k + 1))) % c = l2 at *
          obtain ⟨N3, m5, z5⟩ : ∃ P, IntKind.u64.wrap (N2 + Q) = P ∧ P = N2 + Q := ⟨_, by rw [Div.w64]; omega, rfl⟩
          obtain ⟨L3, m6, z6⟩ : ∃ P, IntKind.u64.wrap (L2 + R) = P ∧ P = L2 + R := ⟨_, by rw [Div.w64]; omega, rfl⟩
          by_cases g2 : C ≤ L3
          · have dg2 : decide (C ≤ L3) = true := decide_eq_true g2
            obtain ⟨L4, m7, z7⟩ : ∃ P, IntKind.u64.wrap (L3 - C) = P ∧ P = L3 - C := ⟨_, by rw [Div.w64]; omega, rfl⟩
            obtain ⟨N4, m8, z8⟩ : ∃ P, IntKind.u64.wrap (N3 + 1) = P ∧ P = N3 + 1 := ⟨_, by rw [Div.w64]; omega, rfl⟩
            have hY := hX.1 (by omega)
            have RN : Hid (N4 = ((a * (b / 2 ^ k) / c : Nat) : Int)) := by show N4 = _; rw [hY.1]; omega
            have RL : Hid (L4 = ((a * (b / 2 ^ k) % c : Nat) : Int)) := by show L4 = _; rw [hY.2]; omega
            clear hbt hb1 hX hY g2 z5 z6 z7 z8 hN2 hL2 bb hA2 hCc hq1 hr1 hl2 zQ zR
            go_wp2
            go_round
            case rel => exact ⟨(k : Int) - 1, k, N4, L4, by rw [QZ.out], ⟨rfl, by have := HJ.out.2; omega⟩, rfl, rfl, RN, RL⟩
            case measure =>
              simp only [intOf]
              rw [QZ.out]
              omega
          · have dg2 : decide (C ≤ L3) = false := decide_eq_false g2
            have hY := hX.2 (by omega)
            have RN : Hid (N3 = ((a * (b / 2 ^ k) / c : Nat) : Int)) := by show N3 = _; rw [hY.1]; omega
            have RL : Hid (L3 = ((a * (b / 2 ^ k) % c : Nat) : Int)) := by show L3 = _; rw [hY.2]; omega
            clear hbt hb1 hX hY g2 z5 z6 hN2 hL2 bb hA2 hCc hq1 hr1 hl2 zQ zR
            go_wp2
            go_round
            case rel => exact ⟨(k : Int) - 1, k, N3, L3, by rw [QZ.out], ⟨rfl, by have := HJ.out.2; omega⟩, rfl, rfl, RN, RL⟩
            case measure =>
              simp only [intOf]
              rw [QZ.out]
              omega
      · have dg : decide (C ≤ L1) = false := decide_eq_false g1
        have d7 : decide ((9223372036854775807 : Int) < N1) = false := decide_eq_false (by omega)
        have hTT := ST.out.2.2.1 (by omega)
        have EN : Hid (N1 = ((2 * (a * (b / 2 ^ (k + 1))) / c : Nat) : Int)) := by show N1 = _; rw [hTT.1]; omega
        have EL : Hid (L1 = ((2 * (a * (b / 2 ^ (k + 1))) % c : Nat) : Int)) := by show L1 = _; rw [hTT.2]; omega
        have bN2 : Hid (0 ≤ N1 ∧ N1 ≤ 2305843009213693953) := by show _ ∧ _; omega
        clear g1 hTT z1 z2 hN hL b1 hA2 hCc
        cases hbt : decide (b / 2 ^ k % 2 = 1)
        · have hb0 : b / 2 ^ k % 2 = 0 := by have := of_decide_eq_false hbt; omega
          rw [hbt] at hbit
          have hX := ST.out.2.2.2.2.1 hb0
          have RN : Hid (N1 = ((a * (b / 2 ^ k) / c : Nat) : Int)) := by show N1 = _; rw [hX]; exact EN.out
          have RL : Hid (L1 = ((a * (b / 2 ^ k) % c : Nat) : Int)) := by show L1 = _; rw [hX]; exact EL.out
          clear hbt hb0 hX
          go_wp2
          go_round
          case rel => exact ⟨(k : Int) - 1, k, N1, L1, by rw [QZ.out], ⟨rfl, by have := HJ.out.2; omega⟩, rfl, rfl, RN, RL⟩
          case measure =>
            simp only [intOf]
            rw [QZ.out]
            omega
        · have hb1 : b / 2 ^ k % 2 = 1 := of_decide_eq_true hbt
          rw [hbt] at hbit
          obtain ⟨Q, qQ, zQ⟩ : ∃ P : Int, IntKind.u64.wrap (A.tdiv C) = P ∧ P = ((a / c : Nat) : Int) := ⟨_, by rw [← hA.out, ← hC.out, Div.w64, ← Int.ofNat_tdiv]; have := Nat.div_le_self a c; have := HA.out.1; generalize a / c = y at *; omega, rfl⟩
          obtain ⟨R, qR, zR⟩ : ∃ P : Int, A.tmod C = P ∧ P = ((a % c : Nat) : Int) := ⟨_, by rw [← hA.out, ← hC.out, ← Int.ofNat_tmod], rfl⟩
          have hq1 := Nat.div_le_self a c
          have hr1 := Nat.mod_lt a HA.out.2.2.1
          have hl2 := ST.out.2.2.2.1
          have hX := ST.out.2.2.2.2.2.1 hb1
          have hN2 := EN.out
          have hL2 := EL.out
          have bb := bN2.out
          have hA2 := HA.out
          have hCc := hC.out
          generalize a / c = q' at *
          generalize a % c = r' at *
          generalize 2 * (a * (b / 2 ^ (k + 1))) / c = n2 at *
          generalize 2 * (a * (b / 2 ^ (k + 1))) % c = l2 at *
          obtain ⟨N3, m5, z5⟩ : ∃ P, IntKind.u64.wrap (N1 + Q) = P ∧ P = N1 + Q := ⟨_, by rw [Div.w64]; omega, rfl⟩
          obtain ⟨L3, m6, z6⟩ : ∃ P, IntKind.u64.wrap (L1 + R) = P ∧ P = L1 + R := ⟨_, by rw [Div.w64]; omega, rfl⟩
          by_cases g2 : C ≤ L3
          · have dg2 : decide (C ≤ L3) = true := decide_eq_true g2
            obtain ⟨L4, m7, z7⟩ : ∃ P, IntKind.u64.wrap (L3 - C) = P ∧ P = L3 - C := ⟨_, by rw [Div.w64]; omega, rfl⟩
            obtain ⟨N4, m8, z8⟩ : ∃ P, IntKind.u64.wrap (N3 + 1) = P ∧ P = N3 + 1 := ⟨_, by rw [Div.w64]; omega, rfl⟩
            have hY := hX.1 (by omega)
            have RN : Hid (N4 = ((a * (b / 2 ^ k) / c : Nat) : Int)) := by show N4 = _; rw [hY.1]; omega
            have RL : Hid (L4 = ((a * (b / 2 ^ k) % c : Nat) : Int)) := by show L4 = _; rw [hY.2]; omega
            clear hbt hb1 hX hY g2 z5 z6 z7 z8 hN2 hL2 bb hA2 hCc hq1 hr1 hl2 zQ zR
            go_wp2
            go_round
            case rel => exact ⟨(k : Int) - 1, k, N4, L4, by rw [QZ.out], ⟨rfl, by have := HJ.out.2; omega⟩, rfl, rfl, RN, RL⟩
            case measure =>
              simp only [intOf]
              rw [QZ.out]
              omega
          · have dg2 : decide (C ≤ L3) = false := decide_eq_false g2
            have hY := hX.2 (by omega)
            have RN : Hid (N3 = ((a * (b / 2 ^ k) / c : Nat) : Int)) := by show N3 = _; rw [hY.1]; omega
            have RL : Hid (L3 = ((a * (b / 2 ^ k) % c : Nat) : Int)) := by show L3 = _; rw [hY.2]; omega
            clear hbt hb1 hX hY g2 z5 z6 hN2 hL2 bb hA2 hCc hq1 hr1 hl2 zQ zR
            go_wp2
            go_round
            case rel => exact ⟨(k : Int) - 1, k, N3, L3, by rw [QZ.out], ⟨rfl, by have := HJ.out.2; omega⟩, rfl, rfl, RN, RL⟩
            case measure =>
              simp only [intOf]
              rw [QZ.out]
              omega
end Fee
end Go.Proofs.Ytiabnjmblcogmaa
end
section
namespace Go.Proofs.Ytiabnjmblcogmaa
open Go.RowKit
namespace Fee
def sc (a b : Int) (up : Bool) : Int := ((Div.scl a.toNat b.toNat 10000 up : Nat) : Int)
theorem sc_le (a b : Nat) (up : Bool) (ha : a ≤ 1152921504606846976) (hb : b ≤ 10000) : Div.scl a b 10000 up ≤ 9223372036854775807 := by
  have h := quo_mono (a := a) (Nat.le_refl b) hb (show 0 < 10000 by omega)
  unfold Div.scl
  split <;> omega
theorem scale_own (a b : Int) (up : Bool) (ha : inR a 1152921504606846976 = true) (hb : inR b 10000 = true) (w : World) :
    Calls Try.prog 70 #[.int .i64 a, .int .i64 b, .int .i64 10000, .bool up] w fun e w' => e = .returned (.tuple #[.int .i64 (sc a b up), .int .i64 0]) ∧ Below w.heap.size w w' := by
  obtain ⟨a0, a1⟩ := inR_yes ha
  obtain ⟨b0, b1⟩ := inR_yes hb
  obtain ⟨x, rfl⟩ := Int.eq_ofNat_of_zero_le a0
  obtain ⟨y, rfl⟩ := Int.eq_ofNat_of_zero_le b0
  have hle := sc_le x y up (by omega) (by omega)
  have := Div.scale_full x y 10000 up (by omega) (by omega) (by omega) (by omega) w
  rwa [Div.sV_ok hle, Div.sE_ok hle] at this
theorem scale_ref (a b : Int) (up : Bool) (ha : inR a 1152921504606846976 = true) (hb : inR b 10000 = true) (w : World) :
    Calls Try.prog 54 #[.int .i64 a, .int .i64 b, .int .i64 10000, .bool up] w fun e w' => e = .returned (.tuple #[.int .i64 (sc a b up), .int .i64 0]) ∧ w = w' := by
  obtain ⟨a0, a1⟩ := inR_yes ha
  obtain ⟨b0, b1⟩ := inR_yes hb
  obtain ⟨x, rfl⟩ := Int.eq_ofNat_of_zero_le a0
  obtain ⟨y, rfl⟩ := Int.eq_ofNat_of_zero_le b0
  exact refScale_small x y 10000 up (by omega) (by omega) (by omega) (by omega) w
theorem okF_rates {f : FeesIn} (h : okF f = true) : inR f.broker 10000 = true ∧ inR f.sales 10000 = true := by
  unfold okF at h
  rw [Bool.and_eq_true, Bool.and_eq_true] at h
  exact ⟨h.1, h.2.1⟩
def brokerV (f : FeesIn) (x : Int) : Int × Int := if okF f && inR x 1152921504606846976 then (max (sc x f.broker true) f.least, 0) else (0, 1)
def saleV (f : FeesIn) (x : Int) : Int × Int := if okF f && inR x 1152921504606846976 then (sc x f.sales false, 0) else (0, 1)
def bayV (p x : Int) : Int × Int := if inR p 10000 && inR x 1099511627776 then (sc x p true, 0) else (0, 1)
set_option maxHeartbeats 2000000 in
theorem bay_any (p x : Int) (w : World) :
    Calls Try.prog 52 #[.int .i64 p, .int .i64 x] w fun e w' => e = .returned (.tuple #[.int .i64 (bayV p x).1, .int .i64 (bayV p x).2]) ∧ Below w.heap.size w w' := by
  have RT : Hid (∀ W, Calls Try.prog 73 #[.int .i64 p] W fun e w' => e = .returned (.bool (inR p 10000)) ∧ W = w') := rate_any p
  have HS : Hid (bayV p x = if inR p 10000 && inR x 1099511627776 then (sc x p true, 0) else (0, 1)) := rfl
  generalize bayV p x = V at *
  cases hp : inR p 10000
  · rw [hp] at RT HS
    have HV : Hid (V = (0, 1)) := HS.out
    clear hp
    go_enter Try.func52, Try.ntmps52
    go_wp2_with (go_at_call 73; ((with_reducible refine (RT.out _).mono ?_); rintro e w1 ⟨rfl, rfl⟩))
    go_ret2
    exact ⟨by rw [HV.out]; rfl, Below.refl _ _⟩
  cases hx : inR x 1099511627776
  · rw [hp] at RT
    rw [hp, hx] at HS
    have HV : Hid (V = (0, 1)) := HS.out
    by_cases g : x < 0
    · have d := decide_eq_true g
      clear hp hx g
      go_enter Try.func52, Try.ntmps52
      go_wp2_with (go_at_call 73; ((with_reducible refine (RT.out _).mono ?_); rintro e w1 ⟨rfl, rfl⟩))
      go_ret2
      exact ⟨by rw [HV.out]; rfl, Below.refl _ _⟩
    · have d := decide_eq_false g
      have d2 : decide ((1099511627776 : Int) < x) = true := decide_eq_true (by have := inR_no hx; omega)
      clear hp hx g
      go_enter Try.func52, Try.ntmps52
      go_wp2_with (go_at_call 73; ((with_reducible refine (RT.out _).mono ?_); rintro e w1 ⟨rfl, rfl⟩))
      go_ret2
      exact ⟨by rw [HV.out]; rfl, Below.refl _ _⟩
  · have hx2 : inR x 1152921504606846976 = true := by have := inR_yes hx; unfold inR; rw [decide_eq_true this.1, decide_eq_true (by omega)]; rfl
    have CS : Hid (∀ W, Calls Try.prog 70 #[.int .i64 x, .int .i64 p, .int .i64 10000, .bool true] W fun e w' => e = .returned (.tuple #[.int .i64 (sc x p true), .int .i64 0]) ∧ Below W.heap.size W w') := fun W => scale_own x p true hx2 hp W
    have x1 : decide (x < 0) = false := decide_eq_false (by have := inR_yes hx; omega)
    have x2 : decide ((1099511627776 : Int) < x) = false := decide_eq_false (by have := inR_yes hx; omega)
    rw [hp] at RT
    rw [hp, hx] at HS
    have HV : Hid (V = (sc x p true, 0)) := HS.out
    generalize sc x p true = Z at *
    clear hp hx hx2
    go_enter Try.func52, Try.ntmps52
    go_wp2_with (first | (go_at_call 73; ((with_reducible refine (RT.out _).mono ?_); rintro e w1 ⟨rfl, rfl⟩)) | (go_at_call 70; ((with_reducible refine (CS.out _).mono ?_); rintro e w3 ⟨rfl, hb3⟩)))
    go_ret2
    exact ⟨by rw [HV.out]; rfl, hb3⟩
set_option maxHeartbeats 2000000 in
theorem refBay_any (p x : Int) (w : World) :
    Calls Try.prog 35 #[.int .i64 p, .int .i64 x] w fun e w' => e = .returned (.tuple #[.int .i64 (bayV p x).1, .int .i64 (bayV p x).2]) ∧ Below w.heap.size w w' := by
  have RT : Hid (∀ W, Calls Try.prog 73 #[.int .i64 p] W fun e w' => e = .returned (.bool (inR p 10000)) ∧ W = w') := rate_any p
  have HS : Hid (bayV p x = if inR p 10000 && inR x 1099511627776 then (sc x p true, 0) else (0, 1)) := rfl
  generalize bayV p x = V at *
  cases hp : inR p 10000
  · rw [hp] at RT HS
    have HV : Hid (V = (0, 1)) := HS.out
    by_cases g : p < 0
    · have d := decide_eq_true g
      clear hp g
      go_enter Try.func35, Try.ntmps35
      go_wp2
      go_ret2
      exact ⟨by rw [HV.out]; rfl, Below.refl _ _⟩
    · have d := decide_eq_false g
      have d2 : decide ((10000 : Int) < p) = true := decide_eq_true (by have := inR_no hp; omega)
      clear hp g
      go_enter Try.func35, Try.ntmps35
      go_wp2
      go_ret2
      exact ⟨by rw [HV.out]; rfl, Below.refl _ _⟩
  have p1 : decide (p < 0) = false := decide_eq_false (by have := inR_yes hp; omega)
  have p2 : decide ((10000 : Int) < p) = false := decide_eq_false (by have := inR_yes hp; omega)
  cases hx : inR x 1099511627776
  · rw [hp] at RT
    rw [hp, hx] at HS
    have HV : Hid (V = (0, 1)) := HS.out
    by_cases g : x < 0
    · have d := decide_eq_true g
      clear hp hx g
      go_enter Try.func35, Try.ntmps35
      go_wp2
      go_ret2
      exact ⟨by rw [HV.out]; rfl, Below.refl _ _⟩
    · have d := decide_eq_false g
      have d2 : decide ((1099511627776 : Int) < x) = true := decide_eq_true (by have := inR_no hx; omega)
      clear hp hx g
      go_enter Try.func35, Try.ntmps35
      go_wp2
      go_ret2
      exact ⟨by rw [HV.out]; rfl, Below.refl _ _⟩
  · have hx2 : inR x 1152921504606846976 = true := by have := inR_yes hx; unfold inR; rw [decide_eq_true this.1, decide_eq_true (by omega)]; rfl
    have CS : Hid (∀ W, Calls Try.prog 54 #[.int .i64 x, .int .i64 p, .int .i64 10000, .bool true] W fun e w' => e = .returned (.tuple #[.int .i64 (sc x p true), .int .i64 0]) ∧ W = w') := fun W => scale_ref x p true hx2 hp W
    have x1 : decide (x < 0) = false := decide_eq_false (by have := inR_yes hx; omega)
    have x2 : decide ((1099511627776 : Int) < x) = false := decide_eq_false (by have := inR_yes hx; omega)
    rw [hp] at RT
    rw [hp, hx] at HS
    have HV : Hid (V = (sc x p true, 0)) := HS.out
    generalize sc x p true = Z at *
    clear hp hx hx2
    go_enter Try.func35, Try.ntmps35
    go_wp2_with (first | (go_at_call 73; ((with_reducible refine (RT.out _).mono ?_); rintro e w1 ⟨rfl, rfl⟩)) | (go_at_call 54; ((with_reducible refine (CS.out _).mono ?_); rintro e w3 ⟨rfl, rfl⟩)))
    go_ret2
    exact ⟨by rw [HV.out]; rfl, Below.refl _ _⟩
end Fee
end Go.Proofs.Ytiabnjmblcogmaa
end
section
namespace Go.Proofs.Ytiabnjmblcogmaa
open Go.RowKit
namespace Quo
open Cat (CatIn BayIn chkC nob noy makerV)
open Rec (BlueIn)
/-- May there be such a number of runs? -/
def runOk (n : Int) : Bool := decide (0 ≤ n) && decide (n ≤ 1000)
/-- May there be such runs of a catalogue? -/
def runsOk (c : CatIn) (l : List Int) : Bool := l.all runOk && decide (l.length = c.blues.length)
/-- What is told of runs in a bay, ahead of all. -/
def mayV (c : CatIn) (bay : Int) (l : List Int) (level : Int) : Int :=
  if chkC c ≠ 0 then chkC c
  else if bay < 1 ∨ (c.bays.length : Int) < bay then 3
  else if runsOk c l = false ∨ level < 0 ∨ 10 < level then 1
  else 0
/-- How long a job takes. -/
def timeJ (c : CatIn) (k : Nat) (l : List Int) (level : Int) : Int := (Rec.timeV (c.blues.getD k nob) level (l.getD k 0)).1
/-- Does the job of a blueprint wait for that of another one? -/
def waitsV (c : CatIn) (l : List Int) (k x : Nat) : Bool := !decide (l.getD x 0 = 0) && (c.blues.getD k nob).needs.any fun s => decide (makerV c.blues s.1 = (x : Int) + 1)
end Quo
end Go.Proofs.Ytiabnjmblcogmaa
end
