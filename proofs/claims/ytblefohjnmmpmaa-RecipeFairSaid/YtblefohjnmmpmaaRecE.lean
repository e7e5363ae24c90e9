/- The reference's word on whether a blueprint may be; one blueprint with numbers beside it. -/
import Derived.Test.YtblefohjnmmpmaaRecB
import Derived.Test.YtblefohjnmmpmaaRecC
import Derived.IntWalk
namespace Go.Proofs.Ytblefohjnmmpmaa
open Go.RowKit
namespace Rec
theorem in_any (n f t : Int) (w : World) :
    Calls Try.prog 26 #[.int .i64 n, .int .i64 f, .int .i64 t] w fun e w' => e = .returned (.bool (inB (n, f, t))) ∧ w = w' := by
  have HI : Hid (inB (n, f, t) = (decide (f ≤ n) && decide (n ≤ t))) := rfl
  generalize inB (n, f, t) = B at *
  by_cases h1 : f ≤ n
  · by_cases h2 : n ≤ t
    · have HB : Hid (B = true) := by show B = true; rw [HI.out, decide_eq_true h1, decide_eq_true h2]; rfl
      have d1 := decide_eq_true h1
      have d2 := decide_eq_true h2
      go_enter Try.func26, Try.ntmps26
      go_wp2
      go_ret
      exact ⟨by rw [HB.out]; rfl, rfl⟩
    · have HB : Hid (B = false) := by show B = false; rw [HI.out, decide_eq_false h2]; simp
      have d1 := decide_eq_true h1
      have d2 := decide_eq_false h2
      go_enter Try.func26, Try.ntmps26
      go_wp2
      go_ret
      exact ⟨by rw [HB.out]; rfl, rfl⟩
  · have HB : Hid (B = false) := by show B = false; rw [HI.out, decide_eq_false h1]; rfl
    have d1 := decide_eq_false h1
    go_enter Try.func26, Try.ntmps26
    go_wp2
    go_ret
    exact ⟨by rw [HB.out]; rfl, rfl⟩
set_option maxHeartbeats 1000000 in
theorem up_any (n m : Nat) (hn : n ≤ 4611686018427387904) (hm : 1 ≤ m) (hm2 : m ≤ 4611686018427387903) (w : World) :
    Calls Try.prog 27 #[.int .i64 (n : Int), .int .i64 (m : Int)] w fun e w' => e = .returned (.int .i64 (((n + m - 1) / m : Nat) : Int)) ∧ w = w' := by
  have e1 : wrap64 ((n : Int) + m) = ((n + m : Nat) : Int) := by unfold wrap64; omega
  have e2 : wrap64 (((n + m : Nat) : Int) - 1) = ((n + m - 1 : Nat) : Int) := by unfold wrap64; omega
  have e3 : IntKind.i64.wrap ((((n + m - 1 : Nat) : Int)).tdiv (m : Int)) = (((n + m - 1) / m : Nat) : Int) := by
    have hle : (n + m - 1) / m ≤ n + m - 1 := Nat.div_le_self _ _
    rw [← Int.ofNat_tdiv]
    generalize (n + m - 1) / m = q at *
    exact Go.IntWalk.i64_in _ (by omega)
  have hm0 : ¬ (m : Int) = 0 := by omega
  generalize hq : (((n + m - 1) / m : Nat) : Int) = Q at *
  generalize hx : ((n + m - 1 : Nat) : Int) = X at *
  generalize hy : ((n + m : Nat) : Int) = Y at *
  generalize (m : Int) = M at *
  generalize (n : Int) = N at *
  clear hq hx hy hn hm hm2
  go_enter Try.func27, Try.ntmps27
  go_wp2
  go_ret
  exact ⟨rfl, rfl⟩
end Rec
end Go.Proofs.Ytblefohjnmmpmaa
