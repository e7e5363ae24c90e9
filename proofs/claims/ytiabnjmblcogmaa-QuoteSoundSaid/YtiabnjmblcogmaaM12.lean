/- Texts put together: DivA, DivS, DivF, RecG, RecG2. -/
import Derived.Test.YtiabnjmblcogmaaM11
import Derived.RegionTactic
import Derived.BigRegion
import Derived.Lib.ItoaNum
import Derived.Laws.BitsLemmas
import Derived.Laws.Bits64
import Derived.Below
set_option linter.all false
section
namespace Go.Proofs.Ytiabnjmblcogmaa
open Go.RowKit
namespace Div
theorem w64 (n : Int) : IntKind.u64.wrap n = n % 18446744073709551616 := by simp [IntKind.wrap, IntKind.bits, IntKind.signed]
/-- A digit that is guessed, as the walk holds it. -/
def PD (y1 y0 u d : Nat) (q r : Int) : Prop := ∃ qn rn : Nat, q = qn ∧ r = rn ∧ Inv 4294967296 y1 y0 u d qn rn ∧ rn < 4294967296
theorem pd_step (y1 y0 u d : Nat) (h1 : y1 < 4294967296) (h0 : y0 < 4294967296) (hu : u < y1 * 4294967296 + y0) (hd : d < 4294967296) (q r : Int) (h : PD y1 y0 u d q r) :
    ∃ m R V q' r' : Int, IntKind.u64.wrap (q * (y0 : Int)) = m ∧ IntKind.u64.wrap (4294967296 * r) = R ∧ IntKind.u64.wrap (R + (d : Int)) = V ∧ IntKind.u64.wrap (q - 1) = q' ∧ IntKind.u64.wrap (r + (y1 : Int)) = r' ∧
      ((4294967296 ≤ q ∨ V < m) → (r' < 4294967296 → PD y1 y0 u d q' r') ∧ (4294967296 ≤ r' → q' = (((u * 4294967296 + d) / (y1 * 4294967296 + y0) : Nat) : Int)) ∧ q'.toNat < q.toNat) ∧
      (q < 4294967296 → m ≤ V → q = (((u * 4294967296 + d) / (y1 * 4294967296 + y0) : Nat) : Int)) := by
  obtain ⟨qn, rn, rfl, rfl, hI, hr⟩ := h
  have hq := hI.2.2
  have hm := Nat.mul_le_mul hq (show y0 ≤ 4294967295 by omega)
  refine ⟨((qn * y0 : Nat) : Int), ((4294967296 * rn : Nat) : Int), ((4294967296 * rn + d : Nat) : Int), IntKind.u64.wrap ((qn : Int) - 1), ((rn + y1 : Nat) : Int), ?_, ?_, ?_, rfl, ?_, ?_, ?_⟩
  · rw [w64, ← Int.natCast_mul]; generalize qn * y0 = z at *; omega
  · rw [w64]; omega
  · rw [w64]; omega
  · rw [w64]; omega
  · intro ht
    have ht' : 4294967296 ≤ qn ∨ 4294967296 * rn + d < qn * y0 := by
      rcases ht with ht | ht
      · exact .inl (by omega)
      · exact .inr (by generalize qn * y0 = z at *; omega)
    obtain ⟨hq1, hI2⟩ := inv_next hI hu hd ht'
    have e : IntKind.u64.wrap ((qn : Int) - 1) = ((qn - 1 : Nat) : Int) := by rw [w64]; omega
    rw [e]
    refine ⟨fun hr' => ⟨qn - 1, rn + y1, rfl, rfl, hI2, by omega⟩, fun hr' => ?_, by omega⟩
    have := inv_end hI2 hu (inv_break h0 (by omega) (by omega))
    exact congrArg _ this
  · intro ht1 ht2
    have := inv_end hI hu (by generalize qn * y0 = z at *; omega)
    exact congrArg _ this
theorem pd_start (y1 y0 u d : Nat) (h31 : 2147483648 ≤ y1) (h1 : y1 < 4294967296) (h0 : y0 < 4294967296) (hu : u < y1 * 4294967296 + y0) (hd : d < 4294967296) :
    IntKind.u64.wrap ((u : Int).tdiv (y1 : Int)) = ((u / y1 : Nat) : Int) ∧ IntKind.u64.wrap (((u / y1 : Nat) : Int) * (y1 : Int)) = ((u / y1 * y1 : Nat) : Int) ∧ IntKind.u64.wrap ((u : Int) - ((u / y1 * y1 : Nat) : Int)) = ((u % y1 : Nat) : Int) ∧ PD y1 y0 u d ((u / y1 : Nat) : Int) ((u % y1 : Nat) : Int) := by
  have hI := inv_start (b := 4294967296) (show 0 < y1 by omega) hu (by omega) h0 hd
  have e := Nat.div_add_mod u y1
  rw [Nat.mul_comm] at e
  have hr : u % y1 < y1 := Nat.mod_lt _ (by omega)
  have hq := hI.2.2
  refine ⟨?_, ?_, ?_, u / y1, u % y1, rfl, rfl, hI, by omega⟩
  · rw [show (u : Int).tdiv (y1 : Int) = ((u / y1 : Nat) : Int) from rfl, w64]
    generalize u / y1 = z at *
    omega
  · rw [← Int.natCast_mul, w64]
    generalize u / y1 * y1 = z at *
    omega
  · rw [w64]
    generalize u / y1 * y1 = z at *
    generalize u % y1 = z2 at *
    omega
/-- What is left behind a digit. -/
theorem pd_left (Y u d q : Nat) (hY : 0 < Y) (hY2 : Y < 18446744073709551616) (hq : q = (u * 4294967296 + d) / Y) :
    IntKind.u64.wrap (IntKind.u64.wrap (IntKind.u64.wrap ((u : Int) * 4294967296) + (d : Int)) - IntKind.u64.wrap ((q : Int) * (Y : Int))) = (((u * 4294967296 + d) % Y : Nat) : Int) := by
  have e := Nat.div_add_mod (u * 4294967296 + d) Y
  have hl := Nat.mod_lt (u * 4294967296 + d) hY
  rw [← hq, Nat.mul_comm] at e
  rw [w64, w64, w64, w64, ← Int.natCast_mul]
  generalize q * Y = z at *
  generalize (u * 4294967296 + d) % Y = z2 at *
  omega
theorem lz (y : Nat) (h0 : y ≠ 0) (hy : y < 18446744073709551616) : ∃ s : Nat, s ≤ 63 ∧ (64 - (Lib.bitLen (y : Int).toNat : Int)) = s ∧ 9223372036854775808 ≤ y * 2 ^ s ∧ y * 2 ^ s < 18446744073709551616 := by
  have b := Lib.bitLenAux_bounds 64 y (by simpa using hy) h0
  have hle := Lib.bitLen_le y 64 (by omega) (by simpa using hy)
  rw [Int.toNat_natCast]
  have e : Lib.bitLen y = Lib.bitLenAux 64 y := rfl
  rw [← e] at b
  obtain ⟨b1, b2, b3⟩ := b
  generalize Lib.bitLen y = t at *
  refine ⟨64 - t, by omega, by omega, ?_, ?_⟩
  · have := Nat.mul_le_mul_right (2 ^ (64 - t)) b2
    rw [← Nat.pow_add, show t - 1 + (64 - t) = 63 by omega] at this
    exact this
  · have := Nat.mul_lt_mul_of_pos_right b3 (Nat.two_pow_pos (64 - t))
    rw [← Nat.pow_add, show t + (64 - t) = 64 by omega] at this
    exact this
theorem wraps_u64 (n : Int) (h₀ : 0 ≤ n) (h₁ : n < 2 ^ 64) : IntKind.u64.wrap n = n := by rw [w64]; omega
theorem mask (x : Nat) (h : x < 18446744073709551616) : bits BinOp.and .u64 (x : Int) 4294967295 = ((x % 4294967296 : Nat) : Int) := by
  have e := bits_mask .u64 64 (by decide) wraps_u64 32 (by decide) (x : Int) (by omega) (by omega)
  have e2 : ((2 : Int) ^ 32 - 1) = 4294967295 := by decide
  have e3 : ((2 : Int) ^ 32) = 4294967296 := by decide
  rw [e2, e3] at e
  rw [e]
  omega
theorem div_big (hi lo y : Nat) (hh : hi < y) (h0 : 0 < hi) (hy : y < 18446744073709551616) (hlo : lo < 18446744073709551616) (w : World) :
    Calls Try.prog 89 #[.int .u64 (hi : Int), .int .u64 (lo : Int), .int .u64 (y : Int)] w fun e w' => e = .returned (.tuple #[.int .u64 (((hi * 18446744073709551616 + lo) / y : Nat) : Int), .int .u64 (((hi * 18446744073709551616 + lo) % y : Nat) : Int)]) ∧ w = w' := by
  obtain ⟨s, hs, hL, hb1, hb2⟩ := lz y (by omega) hy
  have hpp : 2 ^ s * 2 ^ (64 - s) = 18446744073709551616 := by rw [← Nat.pow_add, show s + (64 - s) = 64 by omega]
  have hpi : ((2 : Int) ^ s) = ((2 ^ s : Nat) : Int) := by simp
  have hpi2 : ((2 : Int) ^ (64 - s)) = ((2 ^ (64 - s) : Nat) : Int) := by simp
  have CL : ∀ w : World, Calls Try.prog 98 #[.int .u64 (y : Int)] w fun e w' => e = .returned (.int .i64 (s : Int)) ∧ w = w' := fun w =>
    (Try.bits_LeadingZeros64 (y : Int) w (by omega) (by omega)).mono fun e w' ⟨a, b⟩ => ⟨by rw [a, hL], b.symm⟩
  have hP : 0 < 2 ^ s := Nat.two_pow_pos s
  have hP2 : 0 < 2 ^ (64 - s) := Nat.two_pow_pos _
  have hsh := shifted (hi * 18446744073709551616 + lo) y (2 ^ s) hP
  have hG : lo / 2 ^ (64 - s) < 2 ^ s := by rw [Nat.div_lt_iff_lt_mul hP2, hpp]; exact hlo
  have hlP : lo * 2 ^ s = (lo / 2 ^ (64 - s)) * 18446744073709551616 + (lo * 2 ^ s) % 18446744073709551616 := by
    have e := Nat.div_add_mod (lo * 2 ^ s) 18446744073709551616
    have e2 : lo * 2 ^ s / 18446744073709551616 = lo / 2 ^ (64 - s) := by
      rw [← hpp, Nat.mul_comm (2 ^ s) (2 ^ (64 - s)), Nat.mul_div_mul_right _ _ hP]
    rw [e2] at e
    omega
  have hhP : (hi + 1) * 2 ^ s ≤ y * 2 ^ s := Nat.mul_le_mul_right _ hh
  rw [Nat.add_mul, Nat.one_mul] at hhP
  have hmod : (hi * 2 ^ s) % 2 ^ s = 0 := Nat.mul_mod_left _ _
  have hNP : (hi * 18446744073709551616 + lo) * 2 ^ s = (hi * 2 ^ s) * 18446744073709551616 + lo * 2 ^ s := by rw [Nat.add_mul, Nat.mul_right_comm]
  have hor : bits BinOp.or .u64 ((hi * 2 ^ s : Nat) : Int) ((lo / 2 ^ (64 - s) : Nat) : Int) = ((hi * 2 ^ s + lo / 2 ^ (64 - s) : Nat) : Int) := by
    have e := bits_join .u64 64 (by decide) wraps_u64 s ((hi * 2 ^ s : Nat) : Int) ((lo / 2 ^ (64 - s) : Nat) : Int) (by omega) (by rw [hpi]; exact_mod_cast hmod) (by omega) (by omega) (by rw [hpi]; exact_mod_cast hG) (by omega)
    rw [e]; omega
  have hcast1 : ((y : Int) * 2 ^ s) = ((y * 2 ^ s : Nat) : Int) := by rw [hpi]; simp
  have hcast2 : ((hi : Int) * 2 ^ s) = ((hi * 2 ^ s : Nat) : Int) := by rw [hpi]; simp
  have hcast3 : ((lo : Int) * 2 ^ s) = ((lo * 2 ^ s : Nat) : Int) := by rw [hpi]; simp
  have hcast4 : ((lo : Int) / 2 ^ (64 - s)) = ((lo / 2 ^ (64 - s) : Nat) : Int) := by rw [hpi2]; exact (Int.natCast_ediv _ _).symm
  rw [hNP, hlP] at hsh
  generalize hYe : y * 2 ^ s = Y at *
  generalize hi * 2 ^ s = H at *
  generalize lo / 2 ^ (64 - s) = G at *
  generalize hle : lo * 2 ^ s % 18446744073709551616 = l at *
  have hl : l < 18446744073709551616 := by rw [← hle]; exact Nat.mod_lt _ (by decide)
  obtain ⟨u, hu⟩ : ∃ u, u = H + G := ⟨_, rfl⟩
  have huY : u < Y := by omega
  rw [← hu] at hor
  obtain ⟨y1, hy1⟩ : ∃ y1, y1 = Y / 4294967296 := ⟨_, rfl⟩
  obtain ⟨y0, hy0⟩ : ∃ y0, y0 = Y % 4294967296 := ⟨_, rfl⟩
  obtain ⟨d1, hd1⟩ : ∃ d1, d1 = l / 4294967296 := ⟨_, rfl⟩
  obtain ⟨d0, hd0⟩ : ∃ d0, d0 = l % 4294967296 := ⟨_, rfl⟩
  have hYY : Y = y1 * 4294967296 + y0 := by omega
  have td := two_digits (b := 4294967296) (y := Y) (u := u) (d1 := d1) (d0 := d0) (by omega)
  have hU : u * 4294967296 * 4294967296 + d1 * 4294967296 + d0 = H * 18446744073709551616 + (G * 18446744073709551616 + l) := by omega
  rw [hU, hsh.1] at td
  have hsh2 := hsh.2
  rw [td.2] at hsh2
  have htd1 := td.1
  have hQ1 := true_lt (b := 4294967296) (y := Y) (u := u) (d := d1) huY (by omega)
  have hu2 := Nat.mod_lt (u * 4294967296 + d1) (show 0 < Y by omega)
  have L1 := pd_left Y u d1 _ (by omega) (by omega) rfl
  obtain ⟨s1a, s1b, s1c, s1d⟩ := pd_start y1 y0 u d1 (by omega) (by omega) (by omega) (by omega) (by omega)
  have N1 := pd_step y1 y0 u d1 (by omega) (by omega) (by omega) (by omega)
  rw [← hYY] at N1
  obtain ⟨Q1, hQ1e⟩ : ∃ Q1, Q1 = (u * 4294967296 + d1) / Y := ⟨_, rfl⟩
  obtain ⟨u2, hu2e⟩ : ∃ u2, u2 = (u * 4294967296 + d1) % Y := ⟨_, rfl⟩
  rw [← hQ1e] at N1 htd1 L1 hQ1
  rw [← hu2e] at htd1 hsh2 L1 hu2
  have hQ0 := true_lt (b := 4294967296) (y := Y) (u := u2) (d := d0) hu2 (by omega)
  have L2 := pd_left Y u2 d0 _ (by omega) (by omega) rfl
  obtain ⟨s2a, s2b, s2c, s2d⟩ := pd_start y1 y0 u2 d0 (by omega) (by omega) (by omega) (by omega) (by omega)
  have N2 := pd_step y1 y0 u2 d0 (by omega) (by omega) (by omega) (by omega)
  rw [← hYY] at N2
  obtain ⟨Q0, hQ0e⟩ : ∃ Q0, Q0 = (u2 * 4294967296 + d0) / Y := ⟨_, rfl⟩
  obtain ⟨z5, hz5e⟩ : ∃ z5, z5 = (u2 * 4294967296 + d0) % Y := ⟨_, rfl⟩
  rw [← hQ0e] at N2 htd1 L2 hQ0
  rw [← hz5e] at hsh2 L2
  rw [htd1, ← hsh2]
  have hquo : IntKind.u64.wrap (IntKind.u64.wrap ((Q1 : Int) * 4294967296) + (Q0 : Int)) = ((Q1 * 4294967296 + Q0 : Nat) : Int) := by rw [w64, w64]; omega
  have hrm : ((z5 : Int) / 2 ^ s) = ((z5 / 2 ^ s : Nat) : Int) := by rw [hpi]; exact (Int.natCast_ediv _ _).symm
  exact div_core hi lo y s s ((64 - s : Nat) : Int) Y y1 y0 H G u l d1 d0 _ _ _ Q1 _ _ _ u2 _ _ _ Q0 _ _ _ _ _ _ _ s (64 - s) (PD y1 y0 u d1) (PD y1 y0 u2 d0)
    (beq_eq_false_iff_ne.2 (by omega)) (by omega) (beq_eq_false_iff_ne.2 (by omega)) (by rw [w64]; omega) (by omega) (by omega) (by omega) (by rw [w64]; omega) (by omega)
    (by rw [hcast1, w64]; omega) (by omega) (by rw [mask Y (by omega), hy0]) (by rw [hcast2, w64]; omega) hcast4 hor
    (by rw [hcast3, w64, ← hle]; omega) (by omega) (by rw [mask l hl, hd0]) (by omega) s1a s1b s1c s1d N1 rfl rfl rfl L1 s2a s2b s2c s2d N2 rfl hquo rfl rfl rfl L2 hrm CL w
end Div
end Go.Proofs.Ytiabnjmblcogmaa
end
section
namespace Go.Proofs.Ytiabnjmblcogmaa
open Go.RowKit
namespace Div
theorem below2 {w a b : World} (h : Below w.heap.size w a) (h2 : Below a.heap.size a b) : Below w.heap.size w b := h.trans (h2.mono h.size)
set_option maxHeartbeats 400000 in
theorem div_zero_hi (lo y : Nat) (hl : lo < 18446744073709551616) (hy : y < 18446744073709551616) (h0 : 0 < y) (w : World) :
    Calls Try.prog 89 #[.int .u64 0, .int .u64 (lo : Int), .int .u64 (y : Int)] w fun e w' => e = .returned (.tuple #[.int .u64 ((lo / y : Nat) : Int), .int .u64 ((lo % y : Nat) : Int)]) ∧ Below w.heap.size w w' := by
  have h1 : ((y : Int) == 0) = false := beq_eq_false_iff_ne.2 (by omega)
  have h2 : ¬ (y : Int) ≤ 0 := by omega
  have h3 : (lo : Int) ≤ 18446744073709551615 := by omega
  have h4 : (1 : Int) ≤ (y : Int) := by omega
  have hw : Hid (IntKind.u64.wrap ((lo : Int) / (y : Int)) = (lo : Int) / (y : Int)) := by
    show _ = _
    rw [w64, show (lo : Int) / (y : Int) = ((lo / y : Nat) : Int) from (Int.natCast_ediv lo y).symm]
    have := Nat.div_le_self lo y
    generalize lo / y = q at *
    omega
  clear hl hy h0
  go_enter Try.func89, Try.ntmps89
  go_wp2
  go_region
  go_wp2
  go_ret2
  exact ⟨by rw [Int.natCast_ediv, Int.natCast_emod]; exact congrArg (fun q => Ending.returned (.tuple #[.int .u64 q, .int .u64 ((lo : Int) % (y : Int))])) hw.out, (Below.refl _ _).drew⟩
theorem div_any (hi lo y : Nat) (hh : hi < y) (hy : y < 18446744073709551616) (hlo : lo < 18446744073709551616) (w : World) :
    Calls Try.prog 89 #[.int .u64 (hi : Int), .int .u64 (lo : Int), .int .u64 (y : Int)] w fun e w' => e = .returned (.tuple #[.int .u64 (((hi * 18446744073709551616 + lo) / y : Nat) : Int), .int .u64 (((hi * 18446744073709551616 + lo) % y : Nat) : Int)]) ∧ Below w.heap.size w w' := by
  by_cases h0 : 0 < hi
  · exact (div_big hi lo y hh h0 hy hlo w).mono fun e w' ⟨a, b⟩ => ⟨a, b ▸ Below.refl _ _⟩
  · have : hi = 0 := by omega
    subst this
    rw [Nat.zero_mul, Nat.zero_add]
    exact div_zero_hi lo y hlo hy (by omega) w
/-- A number times another one, by a third; rounded up, or down. -/
def scl (a b c : Nat) (up : Bool) : Nat := a * b / c + if up && decide (0 < a * b % c) then 1 else 0
def sV (a b c : Nat) (up : Bool) : Int := if scl a b c up ≤ 9223372036854775807 then (scl a b c up : Int) else 0
def sE (a b c : Nat) (up : Bool) : Int := if scl a b c up ≤ 9223372036854775807 then 0 else 5
theorem sV_ok {a b c : Nat} {up : Bool} (h : scl a b c up ≤ 9223372036854775807) : sV a b c up = (scl a b c up : Int) := if_pos h
theorem sE_ok {a b c : Nat} {up : Bool} (h : scl a b c up ≤ 9223372036854775807) : sE a b c up = 0 := if_pos h
theorem sV_no {a b c : Nat} {up : Bool} (h : ¬ scl a b c up ≤ 9223372036854775807) : sV a b c up = 0 := if_neg h
theorem sE_no {a b c : Nat} {up : Bool} (h : ¬ scl a b c up ≤ 9223372036854775807) : sE a b c up = 5 := if_neg h
set_option maxHeartbeats 1000000 in
/-- The walk of Scale, of what its callees answer. -/
theorem scale_core (a b c hi lo q r : Int) (up : Bool) (ka : ¬ a < 0) (kb : ¬ b < 0) (kc : ¬ c < 1) (kw : IntKind.u64.wrap a = a) (kw2 : IntKind.u64.wrap b = b) (kw3 : IntKind.u64.wrap c = c)
    (CM : ∀ w : World, Calls Try.prog 88 #[.int .u64 a, .int .u64 b] w fun e w' => e = .returned (.tuple #[.int .u64 hi, .int .u64 lo]) ∧ w = w')
    (hh : ¬ c ≤ hi)
    (CD : ∀ w : World, Calls Try.prog 89 #[.int .u64 hi, .int .u64 lo, .int .u64 c] w fun e w' => e = .returned (.tuple #[.int .u64 q, .int .u64 r]) ∧ Below w.heap.size w w')
    (q1 V E : Int) (hq1 : IntKind.u64.wrap (q + 1) = q1)
    (h1 : up = false ∨ ¬ 0 < r → (9223372036854775807 < q → V = 0 ∧ E = 5) ∧ (¬ 9223372036854775807 < q → V = wrap64 q ∧ E = 0))
    (h2 : up = true → 0 < r → (9223372036854775807 < q → V = 0 ∧ E = 5) ∧ (¬ 9223372036854775807 < q → (9223372036854775807 < q1 → V = 0 ∧ E = 5) ∧ (¬ 9223372036854775807 < q1 → V = wrap64 q1 ∧ E = 0))) (w : World) :
    Calls Try.prog 70 #[.int .i64 a, .int .i64 b, .int .i64 c, .bool up] w fun e w' => e = .returned (.tuple #[.int .i64 V, .int .i64 E]) ∧ Below w.heap.size w w' := by
  replace CM := Lib.hid CM
  replace CD := Lib.hid CD
  have da : decide (a < 0) = false := decide_eq_false ka
  have db : decide (b < 0) = false := decide_eq_false kb
  have dc : decide (c < 1) = false := decide_eq_false kc
  have dh : decide (c ≤ hi) = false := decide_eq_false hh
  by_cases hr : 0 < r
  · cases up
    · obtain ⟨g1, g2⟩ := h1 (.inl rfl)
      clear h1 h2
      have dr : decide (0 < r) = true := decide_eq_true hr
      by_cases hq : 9223372036854775807 < q
      · obtain ⟨rfl, rfl⟩ := g1 hq
        clear g2
        have dq : decide (9223372036854775807 < q) = true := decide_eq_true hq
        go_enter Try.func70, Try.ntmps70
        go_wp2_with (first
          | (go_at_call 88; ((with_reducible refine (CM.out _).mono ?_); rintro e w1 ⟨rfl, rfl⟩))
          | (go_at_call 89; ((with_reducible refine (CD.out _).mono ?_); rintro e w1 ⟨rfl, hb1⟩)))
        go_ret2
        exact ⟨rfl, hb1⟩
      · obtain ⟨rfl, rfl⟩ := g2 hq
        clear g1
        have dq : decide (9223372036854775807 < q) = false := decide_eq_false hq
        go_enter Try.func70, Try.ntmps70
        go_wp2_with (first
          | (go_at_call 88; ((with_reducible refine (CM.out _).mono ?_); rintro e w1 ⟨rfl, rfl⟩))
          | (go_at_call 89; ((with_reducible refine (CD.out _).mono ?_); rintro e w1 ⟨rfl, hb1⟩)))
        go_ret2
        exact ⟨rfl, hb1⟩
    · obtain ⟨g1, g2⟩ := h2 rfl hr
      clear h1 h2
      have dr : decide (0 < r) = true := decide_eq_true hr
      by_cases hq : 9223372036854775807 < q
      · obtain ⟨rfl, rfl⟩ := g1 hq
        clear g2
        have dq : decide (9223372036854775807 < q) = true := decide_eq_true hq
        have dq2 : decide (q ≤ 9223372036854775807) = false := decide_eq_false (by omega)
        go_enter Try.func70, Try.ntmps70
        go_wp2_with (first
          | (go_at_call 88; ((with_reducible refine (CM.out _).mono ?_); rintro e w1 ⟨rfl, rfl⟩))
          | (go_at_call 89; ((with_reducible refine (CD.out _).mono ?_); rintro e w1 ⟨rfl, hb1⟩)))
        go_ret2
        exact ⟨rfl, hb1⟩
      · obtain ⟨g3, g4⟩ := g2 hq
        clear g1 g2
        have dq : decide (9223372036854775807 < q) = false := decide_eq_false hq
        have dq2 : decide (q ≤ 9223372036854775807) = true := decide_eq_true (by omega)
        by_cases hq2 : 9223372036854775807 < q1
        · obtain ⟨rfl, rfl⟩ := g3 hq2
          clear g4
          have dq3 : decide (9223372036854775807 < q1) = true := decide_eq_true hq2
          go_enter Try.func70, Try.ntmps70
          go_wp2_with (first
            | (go_at_call 88; ((with_reducible refine (CM.out _).mono ?_); rintro e w1 ⟨rfl, rfl⟩))
            | (go_at_call 89; ((with_reducible refine (CD.out _).mono ?_); rintro e w1 ⟨rfl, hb1⟩)))
          go_ret2
          exact ⟨rfl, hb1⟩
        · obtain ⟨rfl, rfl⟩ := g4 hq2
          clear g3
          have dq3 : decide (9223372036854775807 < q1) = false := decide_eq_false hq2
          go_enter Try.func70, Try.ntmps70
          go_wp2_with (first
            | (go_at_call 88; ((with_reducible refine (CM.out _).mono ?_); rintro e w1 ⟨rfl, rfl⟩))
            | (go_at_call 89; ((with_reducible refine (CD.out _).mono ?_); rintro e w1 ⟨rfl, hb1⟩)))
          go_ret2
          exact ⟨rfl, hb1⟩
  · obtain ⟨g1, g2⟩ := h1 (.inr hr)
    clear h1 h2
    have dr : decide (0 < r) = false := decide_eq_false hr
    by_cases hq : 9223372036854775807 < q
    · obtain ⟨rfl, rfl⟩ := g1 hq
      clear g2
      have dq : decide (9223372036854775807 < q) = true := decide_eq_true hq
      cases up
      all_goals
        go_enter Try.func70, Try.ntmps70
        go_wp2_with (first
          | (go_at_call 88; ((with_reducible refine (CM.out _).mono ?_); rintro e w1 ⟨rfl, rfl⟩))
          | (go_at_call 89; ((with_reducible refine (CD.out _).mono ?_); rintro e w1 ⟨rfl, hb1⟩)))
        go_ret2
        exact ⟨rfl, hb1⟩
    · obtain ⟨rfl, rfl⟩ := g2 hq
      clear g1
      have dq : decide (9223372036854775807 < q) = false := decide_eq_false hq
      cases up
      all_goals
        go_enter Try.func70, Try.ntmps70
        go_wp2_with (first
          | (go_at_call 88; ((with_reducible refine (CM.out _).mono ?_); rintro e w1 ⟨rfl, rfl⟩))
          | (go_at_call 89; ((with_reducible refine (CD.out _).mono ?_); rintro e w1 ⟨rfl, hb1⟩)))
        go_ret2
        exact ⟨rfl, hb1⟩
end Div
end Go.Proofs.Ytiabnjmblcogmaa
end
section
namespace Go.Proofs.Ytiabnjmblcogmaa
open Go.RowKit
namespace Div
set_option maxHeartbeats 400000 in
theorem scale_over (a b c hi lo : Int) (up : Bool) (ka : ¬ a < 0) (kb : ¬ b < 0) (kc : ¬ c < 1) (kw : IntKind.u64.wrap a = a) (kw2 : IntKind.u64.wrap b = b) (kw3 : IntKind.u64.wrap c = c)
    (CM : ∀ w : World, Calls Try.prog 88 #[.int .u64 a, .int .u64 b] w fun e w' => e = .returned (.tuple #[.int .u64 hi, .int .u64 lo]) ∧ w = w')
    (hh : c ≤ hi) (w : World) :
    Calls Try.prog 70 #[.int .i64 a, .int .i64 b, .int .i64 c, .bool up] w fun e w' => e = .returned (.tuple #[.int .i64 0, .int .i64 5]) ∧ Below w.heap.size w w' := by
  replace CM := Lib.hid CM
  have da : decide (a < 0) = false := decide_eq_false ka
  have db : decide (b < 0) = false := decide_eq_false kb
  have dc : decide (c < 1) = false := decide_eq_false kc
  have dh : decide (c ≤ hi) = true := decide_eq_true hh
  go_enter Try.func70, Try.ntmps70
  go_wp2_with (go_at_call 88; ((with_reducible refine (CM.out _).mono ?_); rintro e w1 ⟨rfl, rfl⟩))
  go_ret2
  exact ⟨rfl, Below.refl _ _⟩
theorem wrap64_id (n : Nat) (h : n ≤ 9223372036854775807) : wrap64 (n : Int) = n := by unfold wrap64; omega
theorem scale_full (a b c : Nat) (up : Bool) (ha : a ≤ 9223372036854775807) (hb : b ≤ 9223372036854775807) (hc : 1 ≤ c) (hc2 : c ≤ 9223372036854775807) (w : World) :
    Calls Try.prog 70 #[.int .i64 (a : Int), .int .i64 (b : Int), .int .i64 (c : Int), .bool up] w fun e w' => e = .returned (.tuple #[.int .i64 (sV a b c up), .int .i64 (sE a b c up)]) ∧ Below w.heap.size w w' := by
  have e := Nat.div_add_mod (a * b) 18446744073709551616
  have hl := Nat.mod_lt (a * b) (show 0 < 18446744073709551616 by decide)
  have CM : ∀ w : World, Calls Try.prog 88 #[.int .u64 (a : Int), .int .u64 (b : Int)] w fun e w' => e = .returned (.tuple #[.int .u64 ((a * b / 18446744073709551616 : Nat) : Int), .int .u64 ((a * b % 18446744073709551616 : Nat) : Int)]) ∧ w = w' :=
    fun w => (Try.bits_Mul64 a b (by omega) (by omega) w).mono fun e w' ⟨h1, h2⟩ => ⟨h1, h2.symm⟩
  by_cases hh : c ≤ a * b / 18446744073709551616
  · have big : ¬ scl a b c up ≤ 9223372036854775807 := by
      have h1 : 18446744073709551616 ≤ a * b / c := by
        rw [Nat.le_div_iff_mul_le (by omega)]
        have := Nat.mul_le_mul_left 18446744073709551616 hh
        omega
      have h2 : a * b / c ≤ scl a b c up := Nat.le_add_right _ _
      omega
    rw [sV_no big, sE_no big]
    exact scale_over a b c _ _ up (by omega) (by omega) (by omega) (by rw [w64]; omega) (by rw [w64]; omega) (by rw [w64]; omega) CM (by omega) w
  · have CD := div_any (a * b / 18446744073709551616) (a * b % 18446744073709551616) c (by omega) (by omega) hl
    have e2 : a * b / 18446744073709551616 * 18446744073709551616 + a * b % 18446744073709551616 = a * b := by omega
    rw [e2] at CD
    have hs : scl a b c up = a * b / c + if up && decide (0 < a * b % c) then 1 else 0 := rfl
    have hqb : a * b / c < 18446744073709551616 := by
      rw [Nat.div_lt_iff_lt_mul (by omega)]
      have := Nat.mul_le_mul_left 18446744073709551616 (show a * b / 18446744073709551616 + 1 ≤ c by omega)
      omega
    unfold sV sE
    generalize scl a b c up = S at *
    refine scale_core a b c _ _ ((a * b / c : Nat) : Int) ((a * b % c : Nat) : Int) up (by omega) (by omega) (by omega) (by rw [w64]; omega) (by rw [w64]; omega) (by rw [w64]; omega) CM (by omega) CD
      (IntKind.u64.wrap (((a * b / c : Nat) : Int) + 1)) _ _ rfl ?_ ?_ w
    · intro h
      have : S = a * b / c := by
        rcases h with rfl | h
        · simpa using hs
        · rw [hs, decide_eq_false (by omega), Bool.and_false]; rfl
      generalize a * b / c = q at *
      refine ⟨fun h => ⟨by rw [if_neg (by omega)], by rw [if_neg (by omega)]⟩, fun h => ⟨?_, by rw [if_pos (by omega)]⟩⟩
      rw [if_pos (by omega), wrap64_id q (by omega), this]
    · intro hu hr
      have : S = a * b / c + 1 := by rw [hs, hu, decide_eq_true (by omega)]; rfl
      generalize a * b / c = q at *
      refine ⟨fun h => ⟨by rw [if_neg (by omega)], by rw [if_neg (by omega)]⟩, fun h => ?_⟩
      have ew : IntKind.u64.wrap ((q : Int) + 1) = ((q + 1 : Nat) : Int) := by rw [w64]; omega
      rw [ew]
      refine ⟨fun h => ⟨by rw [if_neg (by omega)], by rw [if_neg (by omega)]⟩, fun h => ⟨?_, by rw [if_pos (by omega)]⟩⟩
      rw [if_pos (by omega), wrap64_id (q + 1) (by omega), this]
end Div
end Go.Proofs.Ytiabnjmblcogmaa
end
section
namespace Go.Proofs.Ytiabnjmblcogmaa
open Go.RowKit
namespace Rec
theorem inB_ok {n f t : Int} (h : inB (n, f, t) = true) : f ≤ n ∧ n ≤ t := by
  unfold inB at h
  simpa using h
theorem inB_mk {n f t : Int} (h1 : f ≤ n) (h2 : n ≤ t) : inB (n, f, t) = true := by
  unfold inB
  simp [h1, h2]
/-- What a blueprint that may be keeps. -/
theorem bchk_ok (b : BlueIn) (types : Int) (h : bchk b types = 0) : (0 ≤ types ∧ types ≤ 32) ∧ (1 ≤ b.makes ∧ b.makes ≤ types) ∧ (1 ≤ b.per ∧ b.per ≤ 1048576) ∧ (1 ≤ b.time ∧ b.time ≤ 1048576) ∧ (0 ≤ b.copy ∧ b.copy ≤ 1048576) ∧ (0 ≤ b.study ∧ b.study ≤ 1048576) ∧ (1 ≤ b.most ∧ b.most ≤ 1000) ∧ Fair b.needs := by
  cases h0 : inB (types, 0, 32)
  · rw [fits7_no b types (by simp [h0])] at h; exact absurd h (by decide)
  cases h1 : inB (b.makes, 1, types)
  · rw [fits7_no b types (by simp [h1])] at h; exact absurd h (by decide)
  cases h2 : inB (b.per, 1, 1048576)
  · rw [fits7_no b types (by simp [h2])] at h; exact absurd h (by decide)
  cases h3 : inB (b.time, 1, 1048576)
  · rw [fits7_no b types (by simp [h3])] at h; exact absurd h (by decide)
  cases h4 : inB (b.copy, 0, 1048576)
  · rw [fits7_no b types (by simp [h4])] at h; exact absurd h (by decide)
  cases h5 : inB (b.study, 0, 1048576)
  · rw [fits7_no b types (by simp [h5])] at h; exact absurd h (by decide)
  cases h6 : inB (b.most, 1, 1000)
  · rw [fits7_no b types (by simp [h6])] at h; exact absurd h (by decide)
  refine ⟨inB_ok h0, inB_ok h1, inB_ok h2, inB_ok h3, inB_ok h4, inB_ok h5, inB_ok h6, chk_fair b.needs types ?_⟩
  unfold bchk at h
  by_cases hc : chk b.needs types = 0
  · exact hc
  · rw [decide_eq_false hc] at h
    simp at h
/-- A number by another one, rounded up. -/
def upI (n c : Int) : Int := (n + c - 1) / c
theorem upI_nonneg (n c : Int) (h : 0 ≤ n) (hc : 1 ≤ c) : 0 ≤ upI n c := Int.ediv_nonneg (by omega) (by omega)
theorem upI_le (n c : Int) (h : 0 ≤ n) (hc : 1 ≤ c) : upI n c ≤ n + c - 1 := Int.ediv_le_self _ (by omega)
theorem mul_bd {a b A B : Int} (ha : 0 ≤ a) (hA : a ≤ A) (hb : 0 ≤ b) (hB : b ≤ B) : 0 ≤ a * b ∧ a * b ≤ A * B :=
  ⟨Int.mul_nonneg ha hb, Int.mul_le_mul hA hB hb (by omega)⟩
theorem scl_up (n c : Nat) (hc : 1 ≤ c) : n / c + (if 0 < n % c then 1 else 0) = (n + c - 1) / c := by
  have e := Nat.div_add_mod n c
  have hl := Nat.mod_lt n hc
  generalize n / c = q at *
  generalize n % c = r at *
  subst e
  by_cases h : 0 < r
  · rw [if_pos h, show c * q + r + c - 1 = (r - 1) + c * (q + 1) by rw [Nat.mul_add]; omega, Nat.add_mul_div_left _ _ (by omega), Nat.div_eq_of_lt (by omega)]
    omega
  · rw [if_neg h, show c * q + r + c - 1 = (c - 1) + c * q by omega, Nat.add_mul_div_left _ _ (by omega), Nat.div_eq_of_lt (by omega)]
    omega
theorem upI_nat (n c : Nat) (hc : 1 ≤ c) : upI (n : Int) (c : Int) = (((n + c - 1) / c : Nat) : Int) := by
  unfold upI
  rw [show (n : Int) + (c : Int) - 1 = ((n + c - 1 : Nat) : Int) by omega]
  exact Int.ofNat_ediv_ofNat
/-- Scale, rounded up, where the answer does not run over. -/
theorem scale_big (a b c : Int) (ha : 0 ≤ a) (ha2 : a ≤ 9223372036854775807) (hb : 0 ≤ b) (hb2 : b ≤ 9223372036854775807) (hc : 1 ≤ c) (hc2 : c ≤ 9223372036854775807) (hp : upI (a * b) c ≤ 9223372036854775807) (w : World) :
    Calls Try.prog 70 #[.int .i64 a, .int .i64 b, .int .i64 c, .bool true] w fun e w' => e = .returned (.tuple #[.int .i64 (upI (a * b) c), .int .i64 0]) ∧ Below w.heap.size w w' := by
  obtain ⟨x, rfl⟩ := Int.eq_ofNat_of_zero_le ha
  obtain ⟨y, rfl⟩ := Int.eq_ofNat_of_zero_le hb
  obtain ⟨z, rfl⟩ := Int.eq_ofNat_of_zero_le (show 0 ≤ c by omega)
  have hz : 1 ≤ z := by omega
  have hs : Div.scl x y z true = (x * y + z - 1) / z := by
    unfold Div.scl
    rw [← scl_up (x * y) z hz]
    simp
  have hm : ((x * y : Nat) : Int) = (x : Int) * (y : Int) := Int.natCast_mul x y
  rw [← hm, upI_nat _ _ hz] at hp
  have hle : Div.scl x y z true ≤ 9223372036854775807 := by
    rw [hs]
    omega
  have := Div.scale_full x y z true (by omega) (by omega) hz (by omega) w
  rw [Div.sV_ok hle, Div.sE_ok hle, hs] at this
  rwa [← hm, upI_nat _ _ hz]
/-- Scale, rounded up, where nothing runs over. -/
theorem scale_int (a b c : Int) (ha : 0 ≤ a) (ha2 : a ≤ 9223372036854775807) (hb : 0 ≤ b) (hb2 : b ≤ 9223372036854775807) (hc : 1 ≤ c) (hp : a * b + c ≤ 9223372036854775807) (w : World) :
    Calls Try.prog 70 #[.int .i64 a, .int .i64 b, .int .i64 c, .bool true] w fun e w' => e = .returned (.tuple #[.int .i64 (upI (a * b) c), .int .i64 0]) ∧ Below w.heap.size w w' := by
  have h0 := Int.mul_nonneg ha hb
  exact scale_big a b c ha ha2 hb hb2 hc (by omega) (Int.le_trans (upI_le _ _ h0 hc) (by omega)) w
theorem up_int (n m : Int) (hn : 0 ≤ n) (hn2 : n ≤ 4611686018427387904) (hm : 1 ≤ m) (hm2 : m ≤ 4611686018427387903) (w : World) :
    Calls Try.prog 67 #[.int .i64 n, .int .i64 m] w fun e w' => e = .returned (.int .i64 (upI n m)) ∧ w = w' := by
  obtain ⟨x, rfl⟩ := Int.eq_ofNat_of_zero_le hn
  obtain ⟨y, rfl⟩ := Int.eq_ofNat_of_zero_le (show 0 ≤ m by omega)
  rw [upI_nat _ _ (by omega)]
  exact up_any x y (by omega) (by omega) (by omega) w
theorem bnds_one (W : World) (x1 x2 x3 : Int) (t : TypeId) : Bnds (W.alloc (.cells #[.int .i64 x1, .int .i64 x2, .int .i64 x3] t)) (some ⟨W.heap.size, 0, none⟩) [(x1, x2, x3)] := by
  intro i hi
  refine ⟨W.heap.size, 0, rfl, by rw [World.size_alloc]; omega, ?_⟩
  match i, hi with
  | 0, _ => go_simp
theorem bnds_two (W : World) (x1 x2 x3 y1 y2 y3 : Int) (t : TypeId) : Bnds (W.alloc (.cells #[.int .i64 x1, .int .i64 x2, .int .i64 x3, .int .i64 y1, .int .i64 y2, .int .i64 y3] t)) (some ⟨W.heap.size, 0, none⟩) [(x1, x2, x3), (y1, y2, y3)] := by
  intro i hi
  refine ⟨W.heap.size, 0, rfl, by rw [World.size_alloc]; omega, ?_⟩
  match i, hi with
  | 0, _ => go_simp
  | 1, _ => go_simp
theorem Came.below {w w' : World} {b : BlueIn} (h : Came w b) (hb : Below w.heap.size w w') : Came w' b := ⟨h.1, h.2.1.below hb, h.2.2⟩
theorem may_one (b : BlueIn) (x1 x2 x3 : Int) (W : World) (hb : Came W b) (t : TypeId) (g : Nat) (hg : g = W.heap.size) :
    Calls Try.prog 69 #[.agg b.val, .slice (some ⟨g, 0, none⟩) 1 1] (W.alloc (.cells #[.int .i64 x1, .int .i64 x2, .int .i64 x3] t)) fun e w' => e = .returned (.bool (decide (bchk b 32 = 0) && inB (x1, x2, x3))) ∧ Below W.heap.size W w' := by
  subst hg
  have hal := (Below.refl W.heap.size W).alloc (Nat.le_refl _) (.cells #[.int .i64 x1, .int .i64 x2, .int .i64 x3] t)
  refine (may_any b _ 1 [(x1, x2, x3)] (by unfold maxLen; show 1 ≤ _; omega) _ (hb.below hal) (bnds_one W x1 x2 x3 t)).mono fun e w' ⟨h1, h2⟩ => ⟨?_, hal.trans (h2.mono (by rw [World.size_alloc]; omega))⟩
  rw [h1]
  rfl
theorem may_two (b : BlueIn) (x1 x2 x3 y1 y2 y3 : Int) (W : World) (hb : Came W b) (t : TypeId) (g : Nat) (hg : g = W.heap.size) :
    Calls Try.prog 69 #[.agg b.val, .slice (some ⟨g, 0, none⟩) 2 2] (W.alloc (.cells #[.int .i64 x1, .int .i64 x2, .int .i64 x3, .int .i64 y1, .int .i64 y2, .int .i64 y3] t)) fun e w' => e = .returned (.bool (decide (bchk b 32 = 0) && (inB (x1, x2, x3) && inB (y1, y2, y3)))) ∧ Below W.heap.size W w' := by
  subst hg
  have hal := (Below.refl W.heap.size W).alloc (Nat.le_refl _) (.cells #[.int .i64 x1, .int .i64 x2, .int .i64 x3, .int .i64 y1, .int .i64 y2, .int .i64 y3] t)
  refine (may_any b _ 2 [(x1, x2, x3), (y1, y2, y3)] (by unfold maxLen; show 2 ≤ _; omega) _ (hb.below hal) (bnds_two W x1 x2 x3 y1 y2 y3 t)).mono fun e w' ⟨h1, h2⟩ => ⟨?_, hal.trans (h2.mono (by rw [World.size_alloc]; omega))⟩
  rw [h1]
  rfl
end Rec
end Go.Proofs.Ytiabnjmblcogmaa
end
section
namespace Go.Proofs.Ytiabnjmblcogmaa
open Go.RowKit
namespace Rec
def ok1 (b : BlueIn) (n f t : Int) : Bool := decide (bchk b 32 = 0) && inB (n, f, t)
def ok2 (b : BlueIn) (n f t m g u : Int) : Bool := decide (bchk b 32 = 0) && (inB (n, f, t) && inB (m, g, u))
theorem ok1_yes {b : BlueIn} {n f t : Int} (h : ok1 b n f t = true) : bchk b 32 = 0 ∧ f ≤ n ∧ n ≤ t := by
  unfold ok1 at h
  rw [Bool.and_eq_true, decide_eq_true_eq] at h
  exact ⟨h.1, inB_ok h.2⟩
theorem ok2_yes {b : BlueIn} {n f t m g u : Int} (h : ok2 b n f t m g u = true) : bchk b 32 = 0 ∧ (f ≤ n ∧ n ≤ t) ∧ g ≤ m ∧ m ≤ u := by
  unfold ok2 at h
  rw [Bool.and_eq_true, Bool.and_eq_true, decide_eq_true_eq] at h
  exact ⟨h.1, inB_ok h.2.1, inB_ok h.2.2⟩
def runsV (b : BlueIn) (n : Int) : Int × Int := if ok1 b n 0 1125899906842624 then (upI n b.per, 0) else (0, 1)
def timeV (b : BlueIn) (x y : Int) : Int × Int := if ok2 b x 0 10 y 1 1000 then (upI (b.time * y * (100 - 2 * x)) 100, 0) else (0, 1)
def copyV (b : BlueIn) (x y : Int) : Int × Int := if ok2 b x 1 10 y 1 b.most then (b.copy * x * y, 0) else (0, 1)
def studyV (b : BlueIn) (x y : Int) : Int × Int := if ok2 b x 0 10 y 1 (wrap64 (10 - x)) then (b.study * ((x + y) * (x + y + 1) - x * (x + 1)) / 2, 0) else (0, 1)
def bval7 (b : BlueIn) : Value := .agg #[.int .i64 b.makes, .int .i64 b.per, .int .i64 b.time, .slice b.addr b.needs.length b.cap, .int .i64 b.copy, .int .i64 b.study, .int .i64 b.most]
end Rec
end Go.Proofs.Ytiabnjmblcogmaa
end
