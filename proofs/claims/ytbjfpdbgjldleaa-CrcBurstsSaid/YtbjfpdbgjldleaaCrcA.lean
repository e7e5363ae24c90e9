/- What awake() answers: true. -/
import Derived.Test.YtbjfpdbgjldleaaCrcW3
namespace Go.Proofs.Ytbjfpdbgjldleaa
open Go.RowKit
namespace Crc
def s1 : ByteArray := ⟨#[49, 50, 51, 52, 53, 54, 55, 56, 57]⟩
def s2 : ByteArray := ⟨#[49, 50, 51, 52]⟩
def s3 : ByteArray := ⟨#[53, 54, 55, 56, 57]⟩
def s4 : ByteArray := ⟨#[97]⟩
def s5 : ByteArray := ⟨#[97, 0, 0]⟩
def s6 : ByteArray := ⟨#[]⟩
def v2 : BitVec 32 := sum s2.data.toList
def v4 : BitVec 32 := sum s4.data.toList
def v5 : BitVec 32 := zeros v4 2
theorem e1 : U (sum s1.data.toList) = 3421780262 := by decide +kernel
theorem e3 : U (more v2 s3.data.toList) = 3421780262 := by decide +kernel
theorem e5 : sum s5.data.toList = v5 := by decide +kernel
theorem e6 : U (sum s6.data.toList) = 0 := by decide +kernel
theorem c1 (w : World) : Calls Try.prog 9 #[.string ⟨#[49, 50, 51, 52, 53, 54, 55, 56, 57]⟩] w fun e w' => e = .returned (.int .u32 3421780262) ∧ Below w.heap.size w w' :=
  (sum_any s1 (by decide) w).mono fun _ _ ⟨h, hb⟩ => ⟨by rw [h, e1], hb⟩
theorem c2 (w : World) : Calls Try.prog 9 #[.string ⟨#[49, 50, 51, 52]⟩] w fun e w' => e = .returned (.int .u32 (U v2)) ∧ Below w.heap.size w w' :=
  (sum_any s2 (by decide) w).mono fun _ _ ⟨h, hb⟩ => ⟨by rw [h, v2], hb⟩
theorem c3 (w : World) : Calls Try.prog 11 #[.int .u32 (U v2), .string ⟨#[53, 54, 55, 56, 57]⟩] w fun e w' => e = .returned (.int .u32 3421780262) ∧ Below w.heap.size w w' :=
  (more_any v2 s3 (by decide) w).mono fun _ _ ⟨h, hb⟩ => ⟨by rw [h, e3], hb⟩
theorem c4 (w : World) : Calls Try.prog 9 #[.string ⟨#[97]⟩] w fun e w' => e = .returned (.int .u32 (U v4)) ∧ Below w.heap.size w w' :=
  (sum_any s4 (by decide) w).mono fun _ _ ⟨h, hb⟩ => ⟨by rw [h, v4], hb⟩
theorem c5 (w : World) : Calls Try.prog 14 #[.int .u32 (U v4), .int .i64 2] w fun e w' => e = .returned (.int .u32 (U v5)) ∧ Below w.heap.size w w' :=
  (zeros_any v4 2 (by decide) w).mono fun _ _ ⟨h, hb⟩ => ⟨by rw [h, v5], hb⟩
theorem c6 (w : World) : Calls Try.prog 9 #[.string ⟨#[97, 0, 0]⟩] w fun e w' => e = .returned (.int .u32 (U v5)) ∧ Below w.heap.size w w' :=
  (sum_any s5 (by decide) w).mono fun _ _ ⟨h, hb⟩ => ⟨by rw [h, e5], hb⟩
theorem c7 (w : World) : Calls Try.prog 9 #[.string ⟨#[]⟩] w fun e w' => e = .returned (.int .u32 0) ∧ Below w.heap.size w w' :=
  (sum_any s6 (by decide) w).mono fun _ _ ⟨h, hb⟩ => ⟨by rw [h, e6], hb⟩
theorem below2 {w a b : World} (h : Below w.heap.size w a) (h2 : Below a.heap.size a b) : Below w.heap.size w b := h.trans (h2.mono h.size)
set_option maxHeartbeats 400000 in
theorem awake_any (w : World) : Calls Try.prog 8 #[] w fun e w' => e = .returned (.bool true) ∧ Below w.heap.size w w' := by
  go_enter Try.func8, Try.ntmps8
  go_wp2_with (first
    | (go_at_call 9; ((with_reducible refine (c1 _).mono ?_); rintro e w1 ⟨rfl, hb1⟩))
    | (go_at_call 9; ((with_reducible refine (c2 _).mono ?_); rintro e w2 ⟨rfl, hb2⟩))
    | (go_at_call 11; ((with_reducible refine (c3 _).mono ?_); rintro e w3 ⟨rfl, hb3⟩))
    | (go_at_call 9; ((with_reducible refine (c4 _).mono ?_); rintro e w4 ⟨rfl, hb4⟩))
    | (go_at_call 14; ((with_reducible refine (c5 _).mono ?_); rintro e w5 ⟨rfl, hb5⟩))
    | (go_at_call 9; ((with_reducible refine (c6 _).mono ?_); rintro e w6 ⟨rfl, hb6⟩))
    | (go_at_call 9; ((with_reducible refine (c7 _).mono ?_); rintro e w7 ⟨rfl, hb7⟩)))
  go_ret
  exact ⟨rfl, below2 (below2 (below2 (below2 (below2 (below2 hb1 hb2) hb3) hb4) hb5) hb6) hb7⟩
end Crc
end Go.Proofs.Ytbjfpdbgjldleaa
