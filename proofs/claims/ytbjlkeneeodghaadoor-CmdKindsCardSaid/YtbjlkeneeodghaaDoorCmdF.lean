/- Where a number of a command is: the program's walk. -/
import Derived.Test.YtbjlkeneeodghaaDoorCmdP
set_option linter.unusedSimpArgs false
set_option linter.unusedVariables false
namespace Go.Proofs.YtbjlkeneeodghaaDoor
open Go.RowKit
namespace Cmd
open Pen (bs)
def at0 (g : Nat) : Option Nat → Option Addr
  | none => none
  | some i => some ⟨g, 1 + i, none⟩
set_option maxRecDepth 100000 in
theorem field_0 (g : Nat) (w : World) : Calls Tryd.prog 29 #[.pointer (some ⟨g, 0, none⟩), .string (nm 0)] w fun e w' => e = .returned (.pointer (some ⟨g, 1, none⟩)) ∧ w = w' := by
  have e : nm 0 = ⟨#[119, 104, 111]⟩ := by decide +kernel
  rw [e]
  go_enter Tryd.func29, Tryd.ntmps29
  go_wp2
  go_ret
  exact ⟨rfl, rfl⟩
set_option maxRecDepth 100000 in
theorem field_1 (g : Nat) (w : World) : Calls Tryd.prog 29 #[.pointer (some ⟨g, 0, none⟩), .string (nm 1)] w fun e w' => e = .returned (.pointer (some ⟨g, 2, none⟩)) ∧ w = w' := by
  have e : nm 1 = ⟨#[97, 115]⟩ := by decide +kernel
  rw [e]
  go_enter Tryd.func29, Tryd.ntmps29
  go_wp2
  go_ret
  exact ⟨rfl, rfl⟩
set_option maxRecDepth 100000 in
theorem field_2 (g : Nat) (w : World) : Calls Tryd.prog 29 #[.pointer (some ⟨g, 0, none⟩), .string (nm 2)] w fun e w' => e = .returned (.pointer (some ⟨g, 3, none⟩)) ∧ w = w' := by
  have e : nm 2 = ⟨#[100, 105, 118]⟩ := by decide +kernel
  rw [e]
  go_enter Tryd.func29, Tryd.ntmps29
  go_wp2
  go_ret
  exact ⟨rfl, rfl⟩
set_option maxRecDepth 100000 in
theorem field_3 (g : Nat) (w : World) : Calls Tryd.prog 29 #[.pointer (some ⟨g, 0, none⟩), .string (nm 3)] w fun e w' => e = .returned (.pointer (some ⟨g, 4, none⟩)) ∧ w = w' := by
  have e : nm 3 = ⟨#[105, 100]⟩ := by decide +kernel
  rw [e]
  go_enter Tryd.func29, Tryd.ntmps29
  go_wp2
  go_ret
  exact ⟨rfl, rfl⟩
set_option maxRecDepth 100000 in
theorem field_4 (g : Nat) (w : World) : Calls Tryd.prog 29 #[.pointer (some ⟨g, 0, none⟩), .string (nm 4)] w fun e w' => e = .returned (.pointer (some ⟨g, 5, none⟩)) ∧ w = w' := by
  have e : nm 4 = ⟨#[116, 111]⟩ := by decide +kernel
  rw [e]
  go_enter Tryd.func29, Tryd.ntmps29
  go_wp2
  go_ret
  exact ⟨rfl, rfl⟩
set_option maxRecDepth 100000 in
theorem field_5 (g : Nat) (w : World) : Calls Tryd.prog 29 #[.pointer (some ⟨g, 0, none⟩), .string (nm 5)] w fun e w' => e = .returned (.pointer (some ⟨g, 6, none⟩)) ∧ w = w' := by
  have e : nm 5 = ⟨#[105, 110, 116, 111]⟩ := by decide +kernel
  rw [e]
  go_enter Tryd.func29, Tryd.ntmps29
  go_wp2
  go_ret
  exact ⟨rfl, rfl⟩
set_option maxRecDepth 100000 in
theorem field_6 (g : Nat) (w : World) : Calls Tryd.prog 29 #[.pointer (some ⟨g, 0, none⟩), .string (nm 6)] w fun e w' => e = .returned (.pointer (some ⟨g, 7, none⟩)) ∧ w = w' := by
  have e : nm 6 = ⟨#[112, 108, 97, 99, 101]⟩ := by decide +kernel
  rw [e]
  go_enter Tryd.func29, Tryd.ntmps29
  go_wp2
  go_ret
  exact ⟨rfl, rfl⟩
set_option maxRecDepth 100000 in
theorem field_7 (g : Nat) (w : World) : Calls Tryd.prog 29 #[.pointer (some ⟨g, 0, none⟩), .string (nm 7)] w fun e w' => e = .returned (.pointer (some ⟨g, 8, none⟩)) ∧ w = w' := by
  have e : nm 7 = ⟨#[100, 101, 115, 116]⟩ := by decide +kernel
  rw [e]
  go_enter Tryd.func29, Tryd.ntmps29
  go_wp2
  go_ret
  exact ⟨rfl, rfl⟩
set_option maxRecDepth 100000 in
theorem field_8 (g : Nat) (w : World) : Calls Tryd.prog 29 #[.pointer (some ⟨g, 0, none⟩), .string (nm 8)] w fun e w' => e = .returned (.pointer (some ⟨g, 9, none⟩)) ∧ w = w' := by
  have e : nm 8 = ⟨#[116, 121, 112, 101]⟩ := by decide +kernel
  rw [e]
  go_enter Tryd.func29, Tryd.ntmps29
  go_wp2
  go_ret
  exact ⟨rfl, rfl⟩
set_option maxRecDepth 100000 in
theorem field_9 (g : Nat) (w : World) : Calls Tryd.prog 29 #[.pointer (some ⟨g, 0, none⟩), .string (nm 9)] w fun e w' => e = .returned (.pointer (some ⟨g, 10, none⟩)) ∧ w = w' := by
  have e : nm 9 = ⟨#[110]⟩ := by decide +kernel
  rw [e]
  go_enter Tryd.func29, Tryd.ntmps29
  go_wp2
  go_ret
  exact ⟨rfl, rfl⟩
set_option maxRecDepth 100000 in
theorem field_10 (g : Nat) (w : World) : Calls Tryd.prog 29 #[.pointer (some ⟨g, 0, none⟩), .string (nm 10)] w fun e w' => e = .returned (.pointer (some ⟨g, 11, none⟩)) ∧ w = w' := by
  have e : nm 10 = ⟨#[112, 108, 101, 100, 103, 101]⟩ := by decide +kernel
  rw [e]
  go_enter Tryd.func29, Tryd.ntmps29
  go_wp2
  go_ret
  exact ⟨rfl, rfl⟩
set_option maxRecDepth 100000 in
theorem field_11 (g : Nat) (w : World) : Calls Tryd.prog 29 #[.pointer (some ⟨g, 0, none⟩), .string (nm 11)] w fun e w' => e = .returned (.pointer (some ⟨g, 12, none⟩)) ∧ w = w' := by
  have e : nm 11 = ⟨#[108, 97, 115, 116, 115]⟩ := by decide +kernel
  rw [e]
  go_enter Tryd.func29, Tryd.ntmps29
  go_wp2
  go_ret
  exact ⟨rfl, rfl⟩
set_option maxRecDepth 100000 in
theorem field_12 (g : Nat) (w : World) : Calls Tryd.prog 29 #[.pointer (some ⟨g, 0, none⟩), .string (nm 12)] w fun e w' => e = .returned (.pointer (some ⟨g, 13, none⟩)) ∧ w = w' := by
  have e : nm 12 = ⟨#[100, 97, 121, 115]⟩ := by decide +kernel
  rw [e]
  go_enter Tryd.func29, Tryd.ntmps29
  go_wp2
  go_ret
  exact ⟨rfl, rfl⟩
set_option maxRecDepth 100000 in
theorem field_13 (g : Nat) (w : World) : Calls Tryd.prog 29 #[.pointer (some ⟨g, 0, none⟩), .string (nm 13)] w fun e w' => e = .returned (.pointer (some ⟨g, 14, none⟩)) ∧ w = w' := by
  have e : nm 13 = ⟨#[114, 117, 110, 115]⟩ := by decide +kernel
  rw [e]
  go_enter Tryd.func29, Tryd.ntmps29
  go_wp2
  go_ret
  exact ⟨rfl, rfl⟩
set_option maxRecDepth 100000 in
theorem field_14 (g : Nat) (w : World) : Calls Tryd.prog 29 #[.pointer (some ⟨g, 0, none⟩), .string (nm 14)] w fun e w' => e = .returned (.pointer (some ⟨g, 15, none⟩)) ∧ w = w' := by
  have e : nm 14 = ⟨#[99, 111, 112, 105, 101, 115]⟩ := by decide +kernel
  rw [e]
  go_enter Tryd.func29, Tryd.ntmps29
  go_wp2
  go_ret
  exact ⟨rfl, rfl⟩
set_option maxRecDepth 100000 in
theorem field_15 (g : Nat) (w : World) : Calls Tryd.prog 29 #[.pointer (some ⟨g, 0, none⟩), .string (nm 15)] w fun e w' => e = .returned (.pointer (some ⟨g, 16, none⟩)) ∧ w = w' := by
  have e : nm 15 = ⟨#[114, 111, 108, 101, 115]⟩ := by decide +kernel
  rw [e]
  go_enter Tryd.func29, Tryd.ntmps29
  go_wp2
  go_ret
  exact ⟨rfl, rfl⟩
set_option maxRecDepth 100000 in
theorem field_16 (g : Nat) (w : World) : Calls Tryd.prog 29 #[.pointer (some ⟨g, 0, none⟩), .string (nm 16)] w fun e w' => e = .returned (.pointer (some ⟨g, 17, none⟩)) ∧ w = w' := by
  have e : nm 16 = ⟨#[109, 101]⟩ := by decide +kernel
  rw [e]
  go_enter Tryd.func29, Tryd.ntmps29
  go_wp2
  go_ret
  exact ⟨rfl, rfl⟩
set_option maxRecDepth 100000 in
theorem field_17 (g : Nat) (w : World) : Calls Tryd.prog 29 #[.pointer (some ⟨g, 0, none⟩), .string (nm 17)] w fun e w' => e = .returned (.pointer (some ⟨g, 18, none⟩)) ∧ w = w' := by
  have e : nm 17 = ⟨#[116, 101]⟩ := by decide +kernel
  rw [e]
  go_enter Tryd.func29, Tryd.ntmps29
  go_wp2
  go_ret
  exact ⟨rfl, rfl⟩
set_option maxRecDepth 100000 in
theorem field_18 (g : Nat) (w : World) : Calls Tryd.prog 29 #[.pointer (some ⟨g, 0, none⟩), .string (nm 18)] w fun e w' => e = .returned (.pointer (some ⟨g, 19, none⟩)) ∧ w = w' := by
  have e : nm 18 = ⟨#[98, 97, 121]⟩ := by decide +kernel
  rw [e]
  go_enter Tryd.func29, Tryd.ntmps29
  go_wp2
  go_ret
  exact ⟨rfl, rfl⟩
set_option maxRecDepth 100000 in
theorem field_no (g : Nat) (s : ByteArray) (hs : ∀ i, i < 19 → nm i ≠ s) (w : World) : Calls Tryd.prog 29 #[.pointer (some ⟨g, 0, none⟩), .string s] w fun e w' => e = .returned (.pointer none) ∧ w = w' := by
  have h0 : (s.toList == [119, 104, 111]) = false := by rw [← show (⟨#[119, 104, 111]⟩ : ByteArray).toList = [119, 104, 111] by decide +kernel]; exact (Lib.bytes_beq_false_iff s ⟨#[119, 104, 111]⟩).2 fun e => hs 0 (by decide) (e.trans (show (⟨#[119, 104, 111]⟩ : ByteArray) = nm 0 by decide +kernel)).symm
  have h1 : (s.toList == [97, 115]) = false := by rw [← show (⟨#[97, 115]⟩ : ByteArray).toList = [97, 115] by decide +kernel]; exact (Lib.bytes_beq_false_iff s ⟨#[97, 115]⟩).2 fun e => hs 1 (by decide) (e.trans (show (⟨#[97, 115]⟩ : ByteArray) = nm 1 by decide +kernel)).symm
  have h2 : (s.toList == [100, 105, 118]) = false := by rw [← show (⟨#[100, 105, 118]⟩ : ByteArray).toList = [100, 105, 118] by decide +kernel]; exact (Lib.bytes_beq_false_iff s ⟨#[100, 105, 118]⟩).2 fun e => hs 2 (by decide) (e.trans (show (⟨#[100, 105, 118]⟩ : ByteArray) = nm 2 by decide +kernel)).symm
  have h3 : (s.toList == [105, 100]) = false := by rw [← show (⟨#[105, 100]⟩ : ByteArray).toList = [105, 100] by decide +kernel]; exact (Lib.bytes_beq_false_iff s ⟨#[105, 100]⟩).2 fun e => hs 3 (by decide) (e.trans (show (⟨#[105, 100]⟩ : ByteArray) = nm 3 by decide +kernel)).symm
  have h4 : (s.toList == [116, 111]) = false := by rw [← show (⟨#[116, 111]⟩ : ByteArray).toList = [116, 111] by decide +kernel]; exact (Lib.bytes_beq_false_iff s ⟨#[116, 111]⟩).2 fun e => hs 4 (by decide) (e.trans (show (⟨#[116, 111]⟩ : ByteArray) = nm 4 by decide +kernel)).symm
  have h5 : (s.toList == [105, 110, 116, 111]) = false := by rw [← show (⟨#[105, 110, 116, 111]⟩ : ByteArray).toList = [105, 110, 116, 111] by decide +kernel]; exact (Lib.bytes_beq_false_iff s ⟨#[105, 110, 116, 111]⟩).2 fun e => hs 5 (by decide) (e.trans (show (⟨#[105, 110, 116, 111]⟩ : ByteArray) = nm 5 by decide +kernel)).symm
  have h6 : (s.toList == [112, 108, 97, 99, 101]) = false := by rw [← show (⟨#[112, 108, 97, 99, 101]⟩ : ByteArray).toList = [112, 108, 97, 99, 101] by decide +kernel]; exact (Lib.bytes_beq_false_iff s ⟨#[112, 108, 97, 99, 101]⟩).2 fun e => hs 6 (by decide) (e.trans (show (⟨#[112, 108, 97, 99, 101]⟩ : ByteArray) = nm 6 by decide +kernel)).symm
  have h7 : (s.toList == [100, 101, 115, 116]) = false := by rw [← show (⟨#[100, 101, 115, 116]⟩ : ByteArray).toList = [100, 101, 115, 116] by decide +kernel]; exact (Lib.bytes_beq_false_iff s ⟨#[100, 101, 115, 116]⟩).2 fun e => hs 7 (by decide) (e.trans (show (⟨#[100, 101, 115, 116]⟩ : ByteArray) = nm 7 by decide +kernel)).symm
  have h8 : (s.toList == [116, 121, 112, 101]) = false := by rw [← show (⟨#[116, 121, 112, 101]⟩ : ByteArray).toList = [116, 121, 112, 101] by decide +kernel]; exact (Lib.bytes_beq_false_iff s ⟨#[116, 121, 112, 101]⟩).2 fun e => hs 8 (by decide) (e.trans (show (⟨#[116, 121, 112, 101]⟩ : ByteArray) = nm 8 by decide +kernel)).symm
  have h9 : (s.toList == [110]) = false := by rw [← show (⟨#[110]⟩ : ByteArray).toList = [110] by decide +kernel]; exact (Lib.bytes_beq_false_iff s ⟨#[110]⟩).2 fun e => hs 9 (by decide) (e.trans (show (⟨#[110]⟩ : ByteArray) = nm 9 by decide +kernel)).symm
  have h10 : (s.toList == [112, 108, 101, 100, 103, 101]) = false := by rw [← show (⟨#[112, 108, 101, 100, 103, 101]⟩ : ByteArray).toList = [112, 108, 101, 100, 103, 101] by decide +kernel]; exact (Lib.bytes_beq_false_iff s ⟨#[112, 108, 101, 100, 103, 101]⟩).2 fun e => hs 10 (by decide) (e.trans (show (⟨#[112, 108, 101, 100, 103, 101]⟩ : ByteArray) = nm 10 by decide +kernel)).symm
  have h11 : (s.toList == [108, 97, 115, 116, 115]) = false := by rw [← show (⟨#[108, 97, 115, 116, 115]⟩ : ByteArray).toList = [108, 97, 115, 116, 115] by decide +kernel]; exact (Lib.bytes_beq_false_iff s ⟨#[108, 97, 115, 116, 115]⟩).2 fun e => hs 11 (by decide) (e.trans (show (⟨#[108, 97, 115, 116, 115]⟩ : ByteArray) = nm 11 by decide +kernel)).symm
  have h12 : (s.toList == [100, 97, 121, 115]) = false := by rw [← show (⟨#[100, 97, 121, 115]⟩ : ByteArray).toList = [100, 97, 121, 115] by decide +kernel]; exact (Lib.bytes_beq_false_iff s ⟨#[100, 97, 121, 115]⟩).2 fun e => hs 12 (by decide) (e.trans (show (⟨#[100, 97, 121, 115]⟩ : ByteArray) = nm 12 by decide +kernel)).symm
  have h13 : (s.toList == [114, 117, 110, 115]) = false := by rw [← show (⟨#[114, 117, 110, 115]⟩ : ByteArray).toList = [114, 117, 110, 115] by decide +kernel]; exact (Lib.bytes_beq_false_iff s ⟨#[114, 117, 110, 115]⟩).2 fun e => hs 13 (by decide) (e.trans (show (⟨#[114, 117, 110, 115]⟩ : ByteArray) = nm 13 by decide +kernel)).symm
  have h14 : (s.toList == [99, 111, 112, 105, 101, 115]) = false := by rw [← show (⟨#[99, 111, 112, 105, 101, 115]⟩ : ByteArray).toList = [99, 111, 112, 105, 101, 115] by decide +kernel]; exact (Lib.bytes_beq_false_iff s ⟨#[99, 111, 112, 105, 101, 115]⟩).2 fun e => hs 14 (by decide) (e.trans (show (⟨#[99, 111, 112, 105, 101, 115]⟩ : ByteArray) = nm 14 by decide +kernel)).symm
  have h15 : (s.toList == [114, 111, 108, 101, 115]) = false := by rw [← show (⟨#[114, 111, 108, 101, 115]⟩ : ByteArray).toList = [114, 111, 108, 101, 115] by decide +kernel]; exact (Lib.bytes_beq_false_iff s ⟨#[114, 111, 108, 101, 115]⟩).2 fun e => hs 15 (by decide) (e.trans (show (⟨#[114, 111, 108, 101, 115]⟩ : ByteArray) = nm 15 by decide +kernel)).symm
  have h16 : (s.toList == [109, 101]) = false := by rw [← show (⟨#[109, 101]⟩ : ByteArray).toList = [109, 101] by decide +kernel]; exact (Lib.bytes_beq_false_iff s ⟨#[109, 101]⟩).2 fun e => hs 16 (by decide) (e.trans (show (⟨#[109, 101]⟩ : ByteArray) = nm 16 by decide +kernel)).symm
  have h17 : (s.toList == [116, 101]) = false := by rw [← show (⟨#[116, 101]⟩ : ByteArray).toList = [116, 101] by decide +kernel]; exact (Lib.bytes_beq_false_iff s ⟨#[116, 101]⟩).2 fun e => hs 17 (by decide) (e.trans (show (⟨#[116, 101]⟩ : ByteArray) = nm 17 by decide +kernel)).symm
  have h18 : (s.toList == [98, 97, 121]) = false := by rw [← show (⟨#[98, 97, 121]⟩ : ByteArray).toList = [98, 97, 121] by decide +kernel]; exact (Lib.bytes_beq_false_iff s ⟨#[98, 97, 121]⟩).2 fun e => hs 18 (by decide) (e.trans (show (⟨#[98, 97, 121]⟩ : ByteArray) = nm 18 by decide +kernel)).symm
  clear hs
  go_enter Tryd.func29, Tryd.ntmps29
  go_wp2
  go_ret
  exact ⟨rfl, rfl⟩
theorem field_nm (g : Nat) (i : Nat) (hi : i < 19) (w : World) : Calls Tryd.prog 29 #[.pointer (some ⟨g, 0, none⟩), .string (nm i)] w fun e w' => e = .returned (.pointer (some ⟨g, 1 + i, none⟩)) ∧ w = w' := by
  match i, hi with
  | 0, _ => exact field_0 g w
  | 1, _ => exact field_1 g w
  | 2, _ => exact field_2 g w
  | 3, _ => exact field_3 g w
  | 4, _ => exact field_4 g w
  | 5, _ => exact field_5 g w
  | 6, _ => exact field_6 g w
  | 7, _ => exact field_7 g w
  | 8, _ => exact field_8 g w
  | 9, _ => exact field_9 g w
  | 10, _ => exact field_10 g w
  | 11, _ => exact field_11 g w
  | 12, _ => exact field_12 g w
  | 13, _ => exact field_13 g w
  | 14, _ => exact field_14 g w
  | 15, _ => exact field_15 g w
  | 16, _ => exact field_16 g w
  | 17, _ => exact field_17 g w
  | 18, _ => exact field_18 g w
  | n + 19, h => omega
theorem field_any (g : Nat) (s : ByteArray) (w : World) : Calls Tryd.prog 29 #[.pointer (some ⟨g, 0, none⟩), .string s] w fun e w' => e = .returned (.pointer (at0 g (place s))) ∧ w = w' := by
  cases h : place s with
  | some i =>
    obtain ⟨h1, h2⟩ := place_lt 19 i h
    subst h2
    exact field_nm g i h1 w
  | none => exact field_no g s (place_not 19 h) w
end Cmd
end Go.Proofs.YtbjlkeneeodghaaDoor
