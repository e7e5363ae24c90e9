/- The walks of Scale, as far as the statements reach it, and what awake() answers. -/
import Derived.Test.YtpkicpmbpeginaaCalN
import Derived.RegionTactic
import Derived.BigRegion
namespace Go.Proofs.Ytpkicpmbpeginaa
open Go.RowKit
namespace Cal
set_option maxHeartbeats 400000 in
theorem div_zero_hi (lo y : Nat) (hl : lo < 18446744073709551616) (hy : y < 18446744073709551616) (h0 : 0 < y) (w : World) :
    Calls Try.prog 18 #[.int .u64 0, .int .u64 (lo : Int), .int .u64 (y : Int)] w fun e w' => e = .returned (.tuple #[.int .u64 ((lo / y : Nat) : Int), .int .u64 ((lo % y : Nat) : Int)]) ∧ Below w.heap.size w w' := by
  have h1 : ((y : Int) == 0) = false := beq_eq_false_iff_ne.2 (by omega)
  have h2 : ¬ (y : Int) ≤ 0 := by omega
  have h3 : (lo : Int) ≤ 18446744073709551615 := by omega
  have h4 : (1 : Int) ≤ (y : Int) := by omega
  have hw : Hid (IntKind.u64.wrap ((lo : Int) / (y : Int)) = (lo : Int) / (y : Int)) := by
    show _ = _
    rw [w64, show (lo : Int) / (y : Int) = ((lo / y : Nat) : Int) from (Int.natCast_ediv lo y).symm]
    have := Nat.div_le_self lo y
    generalize lo / y = q at *
    omega
  clear hl hy h0
  go_enter Try.func18, Try.ntmps18
  go_wp2
  go_region
  go_wp2
  go_ret2
  exact ⟨by rw [Int.natCast_ediv, Int.natCast_emod]; exact congrArg (fun q => Ending.returned (.tuple #[.int .u64 q, .int .u64 ((lo : Int) % (y : Int))])) hw.out, (Below.refl _ _).drew⟩
theorem lz_max (w : World) : Calls Try.prog 21 #[.int .u64 9223372036854775807] w fun e w' => e = .returned (.int .i64 1) ∧ w = w' :=
  (Try.bits_LeadingZeros64 9223372036854775807 w (by decide) (by decide)).mono fun e w' ⟨a, b⟩ => ⟨by rw [a, show Lib.bitLen (Int.toNat 9223372036854775807) = 63 by decide +kernel]; rfl, b.symm⟩
set_option maxRecDepth 100000 in
set_option maxHeartbeats 1000000 in
theorem div_max (w : World) :
    Calls Try.prog 18 #[.int .u64 4611686018427387903, .int .u64 1, .int .u64 9223372036854775807] w fun e w' => e = .returned (.tuple #[.int .u64 9223372036854775807, .int .u64 0]) ∧ w = w' := by
  have hb : bits .or .u64 9223372036854775806 0 = 9223372036854775806 := by decide +kernel
  have hb2 : bits .and .u64 18446744073709551614 4294967295 = 4294967294 := by decide +kernel
  have hb3 : bits .and .u64 2 4294967295 = 2 := by decide +kernel
  go_enter Try.func18, Try.ntmps18
  go_wp2_with (go_at_call 21; ((with_reducible refine (lz_max _).mono ?_); rintro e w1 ⟨rfl, rfl⟩))
  go_loop [15, 16] (fun q r => q = .int .u64 2147483648 ∧ r = .int .u64 2147483646) (fun _ _ => 0)
  case atStart => exact ⟨rfl, rfl⟩
  case round =>
    obtain ⟨rfl, rfl⟩ := hrel
    go_wp2
    go_loop [18, 16] (fun q r => q = .int .u64 4294967295 ∧ r = .int .u64 4294967293) (fun _ _ => 0)
    case atStart => exact ⟨rfl, rfl⟩
    case round =>
      obtain ⟨rfl, rfl⟩ := hrel
      go_wp2
      go_ret2
      exact ⟨rfl, rfl⟩
end Cal
end Go.Proofs.Ytpkicpmbpeginaa
