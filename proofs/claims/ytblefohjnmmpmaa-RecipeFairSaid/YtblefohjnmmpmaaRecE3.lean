/- The reference's word on whether a blueprint may be; one blueprint with numbers beside it. -/
import Derived.Test.YtblefohjnmmpmaaRecE2
namespace Go.Proofs.Ytblefohjnmmpmaa
open Go.RowKit
namespace Rec
set_option maxRecDepth 100000 in
set_option maxHeartbeats 2000000 in
theorem may_any (b : BlueIn) (a : Option Addr) (cap : Nat) (l : List Bnd) (hl : l.length ≤ maxLen) (w : World) (hb : Came w b) (ha : Bnds w a l) :
    Calls Try.prog 24 #[.agg b.val, .slice a l.length cap] w fun e w' => e = .returned (.bool (decide (bchk b 32 = 0) && fitsTo l l.length)) ∧ Below w.heap.size w w' := by
  have HB := Lib.hid hb
  have HA := Lib.hid ha
  have HL := Lib.hid hl
  have C1 : Hid (∀ W : World, Below w.heap.size w W → Calls Try.prog 15 #[.agg #[.int .i64 b.makes, .int .i64 b.per, .int .i64 b.time, .slice b.addr b.needs.length b.cap, .int .i64 b.copy, .int .i64 b.study, .int .i64 b.most], .int .i64 32] W fun e w' => e = .returned (.int .i64 (bchk b 32)) ∧ Below W.heap.size W w') := fun W h => check_any b 32 W ⟨HB.out.1, HB.out.2.1.below h, HB.out.2.2⟩
  have C2 : Hid (∀ W : World, Below w.heap.size w W → Calls Try.prog 28 #[.slice a l.length cap] W fun e w' => e = .returned (.bool (fitsTo l l.length)) ∧ Below W.heap.size W w') := fun W h => fits_any _ _ _ HL.out _ (HA.out.below h)
  have HK : Hid (bchk b 32 = 0 ∨ bchk b 32 = 1) := bchk_two b 32
  generalize bchk b 32 = K at *
  generalize fitsTo l l.length = F at *
  clear hb ha hl
  unfold BlueIn.val
  have hbw := Lib.hid ((Below.refl w.heap.size w).alloc (Nat.le_refl _) (.cells #[.int .i64 b.makes, .int .i64 b.per, .int .i64 b.time, .slice b.addr b.needs.length b.cap, .int .i64 b.copy, .int .i64 b.study, .int .i64 b.most] 24))
  rcases HK.out with rfl | rfl
  · go_enter Try.func24, Try.ntmps24
    go_wp2_with (first
      | (go_at_call 15; ((with_reducible refine (C1.out _ hbw.out).mono ?_); rintro e w1 ⟨rfl, hb1⟩; have hb1' := hbw.out.trans (hb1.mono (by simp))))
      | (go_at_call 28; ((with_reducible refine (C2.out _ hb1').mono ?_); rintro e w2 ⟨rfl, hb2⟩)))
    go_ret
    exact ⟨by simp, below2 hb1' hb2⟩
  · go_enter Try.func24, Try.ntmps24
    go_wp2_with (go_at_call 15; ((with_reducible refine (C1.out _ hbw.out).mono ?_); rintro e w1 ⟨rfl, hb1⟩; have hb1' := hbw.out.trans (hb1.mono (by simp))))
    go_ret
    exact ⟨by simp, hb1'⟩
end Rec
end Go.Proofs.Ytblefohjnmmpmaa
