/- Div64: whatever the high word. -/
import Derived.Test.YtbfcgaijplhcoaaDivW
import Derived.RegionTactic
import Derived.BigRegion
import Derived.Lib.ItoaNum
import Derived.Laws.BitsLemmas
import Derived.Laws.Bits64
import Derived.Below
namespace Go.Proofs.Ytbfcgaijplhcoaa
open Go.RowKit
namespace Div
theorem w64 (n : Int) : IntKind.u64.wrap n = n % 18446744073709551616 := by simp [IntKind.wrap, IntKind.bits, IntKind.signed]
/-- A digit that is guessed, as the walk holds it. -/
def PD (y1 y0 u d : Nat) (q r : Int) : Prop := ∃ qn rn : Nat, q = qn ∧ r = rn ∧ Inv 4294967296 y1 y0 u d qn rn ∧ rn < 4294967296
theorem pd_step (y1 y0 u d : Nat) (h1 : y1 < 4294967296) (h0 : y0 < 4294967296) (hu : u < y1 * 4294967296 + y0) (hd : d < 4294967296) (q r : Int) (h : PD y1 y0 u d q r) :
    ∃ m R V q' r' : Int, IntKind.u64.wrap (q * (y0 : Int)) = m ∧ IntKind.u64.wrap (4294967296 * r) = R ∧ IntKind.u64.wrap (R + (d : Int)) = V ∧ IntKind.u64.wrap (q - 1) = q' ∧ IntKind.u64.wrap (r + (y1 : Int)) = r' ∧
      ((4294967296 ≤ q ∨ V < m) → (r' < 4294967296 → PD y1 y0 u d q' r') ∧ (4294967296 ≤ r' → q' = (((u * 4294967296 + d) / (y1 * 4294967296 + y0) : Nat) : Int)) ∧ q'.toNat < q.toNat) ∧
      (q < 4294967296 → m ≤ V → q = (((u * 4294967296 + d) / (y1 * 4294967296 + y0) : Nat) : Int)) := by
  obtain ⟨qn, rn, rfl, rfl, hI, hr⟩ := h
  have hq := hI.2.2
  have hm := Nat.mul_le_mul hq (show y0 ≤ 4294967295 by omega)
  refine ⟨((qn * y0 : Nat) : Int), ((4294967296 * rn : Nat) : Int), ((4294967296 * rn + d : Nat) : Int), IntKind.u64.wrap ((qn : Int) - 1), ((rn + y1 : Nat) : Int), ?_, ?_, ?_, rfl, ?_, ?_, ?_⟩
  · rw [w64, ← Int.natCast_mul]; generalize qn * y0 = z at *; omega
  · rw [w64]; omega
  · rw [w64]; omega
  · rw [w64]; omega
  · intro ht
    have ht' : 4294967296 ≤ qn ∨ 4294967296 * rn + d < qn * y0 := by
      rcases ht with ht | ht
      · exact .inl (by omega)
      · exact .inr (by generalize qn * y0 = z at *; omega)
    obtain ⟨hq1, hI2⟩ := inv_next hI hu hd ht'
    have e : IntKind.u64.wrap ((qn : Int) - 1) = ((qn - 1 : Nat) : Int) := by rw [w64]; omega
    rw [e]
    refine ⟨fun hr' => ⟨qn - 1, rn + y1, rfl, rfl, hI2, by omega⟩, fun hr' => ?_, by omega⟩
    have := inv_end hI2 hu (inv_break h0 (by omega) (by omega))
    exact congrArg _ this
  · intro ht1 ht2
    have := inv_end hI hu (by generalize qn * y0 = z at *; omega)
    exact congrArg _ this
theorem pd_start (y1 y0 u d : Nat) (h31 : 2147483648 ≤ y1) (h1 : y1 < 4294967296) (h0 : y0 < 4294967296) (hu : u < y1 * 4294967296 + y0) (hd : d < 4294967296) :
    IntKind.u64.wrap ((u : Int).tdiv (y1 : Int)) = ((u / y1 : Nat) : Int) ∧ IntKind.u64.wrap (((u / y1 : Nat) : Int) * (y1 : Int)) = ((u / y1 * y1 : Nat) : Int) ∧ IntKind.u64.wrap ((u : Int) - ((u / y1 * y1 : Nat) : Int)) = ((u % y1 : Nat) : Int) ∧ PD y1 y0 u d ((u / y1 : Nat) : Int) ((u % y1 : Nat) : Int) := by
  have hI := inv_start (b := 4294967296) (show 0 < y1 by omega) hu (by omega) h0 hd
  have e := Nat.div_add_mod u y1
  rw [Nat.mul_comm] at e
  have hr : u % y1 < y1 := Nat.mod_lt _ (by omega)
  have hq := hI.2.2
  refine ⟨?_, ?_, ?_, u / y1, u % y1, rfl, rfl, hI, by omega⟩
  · rw [show (u : Int).tdiv (y1 : Int) = ((u / y1 : Nat) : Int) from rfl, w64]
    generalize u / y1 = z at *
    omega
  · rw [← Int.natCast_mul, w64]
    generalize u / y1 * y1 = z at *
    omega
  · rw [w64]
    generalize u / y1 * y1 = z at *
    generalize u % y1 = z2 at *
    omega
/-- What is left behind a digit. -/
theorem pd_left (Y u d q : Nat) (hY : 0 < Y) (hY2 : Y < 18446744073709551616) (hq : q = (u * 4294967296 + d) / Y) :
    IntKind.u64.wrap (IntKind.u64.wrap (IntKind.u64.wrap ((u : Int) * 4294967296) + (d : Int)) - IntKind.u64.wrap ((q : Int) * (Y : Int))) = (((u * 4294967296 + d) % Y : Nat) : Int) := by
  have e := Nat.div_add_mod (u * 4294967296 + d) Y
  have hl := Nat.mod_lt (u * 4294967296 + d) hY
  rw [← hq, Nat.mul_comm] at e
  rw [w64, w64, w64, w64, ← Int.natCast_mul]
  generalize q * Y = z at *
  generalize (u * 4294967296 + d) % Y = z2 at *
  omega
theorem lz (y : Nat) (h0 : y ≠ 0) (hy : y < 18446744073709551616) : ∃ s : Nat, s ≤ 63 ∧ (64 - (Lib.bitLen (y : Int).toNat : Int)) = s ∧ 9223372036854775808 ≤ y * 2 ^ s ∧ y * 2 ^ s < 18446744073709551616 := by
  have b := Lib.bitLenAux_bounds 64 y (by simpa using hy) h0
  have hle := Lib.bitLen_le y 64 (by omega) (by simpa using hy)
  rw [Int.toNat_natCast]
  have e : Lib.bitLen y = Lib.bitLenAux 64 y := rfl
  rw [← e] at b
  obtain ⟨b1, b2, b3⟩ := b
  generalize Lib.bitLen y = t at *
  refine ⟨64 - t, by omega, by omega, ?_, ?_⟩
  · have := Nat.mul_le_mul_right (2 ^ (64 - t)) b2
    rw [← Nat.pow_add, show t - 1 + (64 - t) = 63 by omega] at this
    exact this
  · have := Nat.mul_lt_mul_of_pos_right b3 (Nat.two_pow_pos (64 - t))
    rw [← Nat.pow_add, show t + (64 - t) = 64 by omega] at this
    exact this
theorem wraps_u64 (n : Int) (h₀ : 0 ≤ n) (h₁ : n < 2 ^ 64) : IntKind.u64.wrap n = n := by rw [w64]; omega
theorem mask (x : Nat) (h : x < 18446744073709551616) : bits BinOp.and .u64 (x : Int) 4294967295 = ((x % 4294967296 : Nat) : Int) := by
  have e := bits_mask .u64 64 (by decide) wraps_u64 32 (by decide) (x : Int) (by omega) (by omega)
  have e2 : ((2 : Int) ^ 32 - 1) = 4294967295 := by decide
  have e3 : ((2 : Int) ^ 32) = 4294967296 := by decide
  rw [e2, e3] at e
  rw [e]
  omega
theorem div_big (hi lo y : Nat) (hh : hi < y) (h0 : 0 < hi) (hy : y < 18446744073709551616) (hlo : lo < 18446744073709551616) (w : World) :
    Calls Try.prog 22 #[.int .u64 (hi : Int), .int .u64 (lo : Int), .int .u64 (y : Int)] w fun e w' => e = .returned (.tuple #[.int .u64 (((hi * 18446744073709551616 + lo) / y : Nat) : Int), .int .u64 (((hi * 18446744073709551616 + lo) % y : Nat) : Int)]) ∧ w = w' := by
  obtain ⟨s, hs, hL, hb1, hb2⟩ := lz y (by omega) hy
  have hpp : 2 ^ s * 2 ^ (64 - s) = 18446744073709551616 := by rw [← Nat.pow_add, show s + (64 - s) = 64 by omega]
  have hpi : ((2 : Int) ^ s) = ((2 ^ s : Nat) : Int) := by simp
  have hpi2 : ((2 : Int) ^ (64 - s)) = ((2 ^ (64 - s) : Nat) : Int) := by simp
  have CL : ∀ w : World, Calls Try.prog 32 #[.int .u64 (y : Int)] w fun e w' => e = .returned (.int .i64 (s : Int)) ∧ w = w' := fun w =>
    (Try.bits_LeadingZeros64 (y : Int) w (by omega) (by omega)).mono fun e w' ⟨a, b⟩ => ⟨by rw [a, hL], b.symm⟩
  have hP : 0 < 2 ^ s := Nat.two_pow_pos s
  have hP2 : 0 < 2 ^ (64 - s) := Nat.two_pow_pos _
  have hsh := shifted (hi * 18446744073709551616 + lo) y (2 ^ s) hP
  have hG : lo / 2 ^ (64 - s) < 2 ^ s := by rw [Nat.div_lt_iff_lt_mul hP2, hpp]; exact hlo
  have hlP : lo * 2 ^ s = (lo / 2 ^ (64 - s)) * 18446744073709551616 + (lo * 2 ^ s) % 18446744073709551616 := by
    have e := Nat.div_add_mod (lo * 2 ^ s) 18446744073709551616
    have e2 : lo * 2 ^ s / 18446744073709551616 = lo / 2 ^ (64 - s) := by
      rw [← hpp, Nat.mul_comm (2 ^ s) (2 ^ (64 - s)), Nat.mul_div_mul_right _ _ hP]
    rw [e2] at e
    omega
  have hhP : (hi + 1) * 2 ^ s ≤ y * 2 ^ s := Nat.mul_le_mul_right _ hh
  rw [Nat.add_mul, Nat.one_mul] at hhP
  have hmod : (hi * 2 ^ s) % 2 ^ s = 0 := Nat.mul_mod_left _ _
  have hNP : (hi * 18446744073709551616 + lo) * 2 ^ s = (hi * 2 ^ s) * 18446744073709551616 + lo * 2 ^ s := by rw [Nat.add_mul, Nat.mul_right_comm]
  have hor : bits BinOp.or .u64 ((hi * 2 ^ s : Nat) : Int) ((lo / 2 ^ (64 - s) : Nat) : Int) = ((hi * 2 ^ s + lo / 2 ^ (64 - s) : Nat) : Int) := by
    have e := bits_join .u64 64 (by decide) wraps_u64 s ((hi * 2 ^ s : Nat) : Int) ((lo / 2 ^ (64 - s) : Nat) : Int) (by omega) (by rw [hpi]; exact_mod_cast hmod) (by omega) (by omega) (by rw [hpi]; exact_mod_cast hG) (by omega)
    rw [e]; omega
  have hcast1 : ((y : Int) * 2 ^ s) = ((y * 2 ^ s : Nat) : Int) := by rw [hpi]; simp
  have hcast2 : ((hi : Int) * 2 ^ s) = ((hi * 2 ^ s : Nat) : Int) := by rw [hpi]; simp
  have hcast3 : ((lo : Int) * 2 ^ s) = ((lo * 2 ^ s : Nat) : Int) := by rw [hpi]; simp
  have hcast4 : ((lo : Int) / 2 ^ (64 - s)) = ((lo / 2 ^ (64 - s) : Nat) : Int) := by rw [hpi2]; exact (Int.natCast_ediv _ _).symm
  rw [hNP, hlP] at hsh
  generalize hYe : y * 2 ^ s = Y at *
  generalize hi * 2 ^ s = H at *
  generalize lo / 2 ^ (64 - s) = G at *
  generalize hle : lo * 2 ^ s % 18446744073709551616 = l at *
  have hl : l < 18446744073709551616 := by rw [← hle]; exact Nat.mod_lt _ (by decide)
  obtain ⟨u, hu⟩ : ∃ u, u = H + G := ⟨_, rfl⟩
  have huY : u < Y := by omega
  rw [← hu] at hor
  obtain ⟨y1, hy1⟩ : ∃ y1, y1 = Y / 4294967296 := ⟨_, rfl⟩
  obtain ⟨y0, hy0⟩ : ∃ y0, y0 = Y % 4294967296 := ⟨_, rfl⟩
  obtain ⟨d1, hd1⟩ : ∃ d1, d1 = l / 4294967296 := ⟨_, rfl⟩
  obtain ⟨d0, hd0⟩ : ∃ d0, d0 = l % 4294967296 := ⟨_, rfl⟩
  have hYY : Y = y1 * 4294967296 + y0 := by omega
  have td := two_digits (b := 4294967296) (y := Y) (u := u) (d1 := d1) (d0 := d0) (by omega)
  have hU : u * 4294967296 * 4294967296 + d1 * 4294967296 + d0 = H * 18446744073709551616 + (G * 18446744073709551616 + l) := by omega
  rw [hU, hsh.1] at td
  have hsh2 := hsh.2
  rw [td.2] at hsh2
  have htd1 := td.1
  have hQ1 := true_lt (b := 4294967296) (y := Y) (u := u) (d := d1) huY (by omega)
  have hu2 := Nat.mod_lt (u * 4294967296 + d1) (show 0 < Y by omega)
  have L1 := pd_left Y u d1 _ (by omega) (by omega) rfl
  obtain ⟨s1a, s1b, s1c, s1d⟩ := pd_start y1 y0 u d1 (by omega) (by omega) (by omega) (by omega) (by omega)
  have N1 := pd_step y1 y0 u d1 (by omega) (by omega) (by omega) (by omega)
  rw [← hYY] at N1
  obtain ⟨Q1, hQ1e⟩ : ∃ Q1, Q1 = (u * 4294967296 + d1) / Y := ⟨_, rfl⟩
  obtain ⟨u2, hu2e⟩ : ∃ u2, u2 = (u * 4294967296 + d1) % Y := ⟨_, rfl⟩
  rw [← hQ1e] at N1 htd1 L1 hQ1
  rw [← hu2e] at htd1 hsh2 L1 hu2
  have hQ0 := true_lt (b := 4294967296) (y := Y) (u := u2) (d := d0) hu2 (by omega)
  have L2 := pd_left Y u2 d0 _ (by omega) (by omega) rfl
  obtain ⟨s2a, s2b, s2c, s2d⟩ := pd_start y1 y0 u2 d0 (by omega) (by omega) (by omega) (by omega) (by omega)
  have N2 := pd_step y1 y0 u2 d0 (by omega) (by omega) (by omega) (by omega)
  rw [← hYY] at N2
  obtain ⟨Q0, hQ0e⟩ : ∃ Q0, Q0 = (u2 * 4294967296 + d0) / Y := ⟨_, rfl⟩
  obtain ⟨z5, hz5e⟩ : ∃ z5, z5 = (u2 * 4294967296 + d0) % Y := ⟨_, rfl⟩
  rw [← hQ0e] at N2 htd1 L2 hQ0
  rw [← hz5e] at hsh2 L2
  rw [htd1, ← hsh2]
  have hquo : IntKind.u64.wrap (IntKind.u64.wrap ((Q1 : Int) * 4294967296) + (Q0 : Int)) = ((Q1 * 4294967296 + Q0 : Nat) : Int) := by rw [w64, w64]; omega
  have hrm : ((z5 : Int) / 2 ^ s) = ((z5 / 2 ^ s : Nat) : Int) := by rw [hpi]; exact (Int.natCast_ediv _ _).symm
  exact div_core hi lo y s s ((64 - s : Nat) : Int) Y y1 y0 H G u l d1 d0 _ _ _ Q1 _ _ _ u2 _ _ _ Q0 _ _ _ _ _ _ _ s (64 - s) (PD y1 y0 u d1) (PD y1 y0 u2 d0)
    (beq_eq_false_iff_ne.2 (by omega)) (by omega) (beq_eq_false_iff_ne.2 (by omega)) (by rw [w64]; omega) (by omega) (by omega) (by omega) (by rw [w64]; omega) (by omega)
    (by rw [hcast1, w64]; omega) (by omega) (by rw [mask Y (by omega), hy0]) (by rw [hcast2, w64]; omega) hcast4 hor
    (by rw [hcast3, w64, ← hle]; omega) (by omega) (by rw [mask l hl, hd0]) (by omega) s1a s1b s1c s1d N1 rfl rfl rfl L1 s2a s2b s2c s2d N2 rfl hquo rfl rfl rfl L2 hrm CL w
end Div
end Go.Proofs.Ytbfcgaijplhcoaa
