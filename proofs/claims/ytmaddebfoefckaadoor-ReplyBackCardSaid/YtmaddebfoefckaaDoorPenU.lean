/- Numbers as bytes: Uint, and the reference's. -/
import Derived.Test.YtmaddebfoefckaaDoorPenW
import Derived.Deep.RegionWith
import Derived.Deep.QuietTactic
namespace Go.Proofs.YtmaddebfoefckaaDoor
open Go.RowKit
namespace Pen
set_option maxRecDepth 100000 in
theorem uint_any (n : Int) (hn : n ≤ 9223372036854775807) (w : World) :
    Calls Tryd.prog 14 #[.int .i64 n] w fun e w' => e = .returned (.string (bs (uintB n))) ∧ Below w.heap.size w w' := by
  by_cases h : n < 0
  · have d : decide (n < 0) = true := decide_eq_true h
    have HR : Hid (uintB n = []) := by show _ = _; unfold uintB; rw [if_pos h]
    rw [HR.out]
    clear h hn
    go_enter Tryd.func14, Tryd.ntmps14
    go_wp2
    go_ret
    exact ⟨rfl, Below.refl _ _⟩
  · have d : decide (n < 0) = false := decide_eq_false h
    have HR : Hid (uintB n = wb n.toNat) := by show _ = _; unfold uintB; rw [if_neg h]
    rw [HR.out]
    have CW : Hid (∀ w, _) := fun w => word_any n.toNat (by omega) w
    have hn0 : ((n.toNat : Nat) : Int) = n := by omega
    rw [hn0] at CW
    have hw : IntKind.u64.wrap n = n := by rw [IntKind.wrap_u64]; omega
    clear h hn hn0
    generalize wb n.toNat = B at *
    go_enter Tryd.func14, Tryd.ntmps14
    go_wp2_with (go_at_call 31; ((with_reducible refine (CW.out _).mono ?_); rintro e w1 ⟨rfl, hb1⟩; have HB1 := Lib.hid hb1; clear hb1))
    go_ret
    exact ⟨rfl, HB1.out⟩
theorem bs_cons (b : UInt8) (l : List UInt8) : bs [b] ++ bs l = bs (b :: l) := by rw [bs_append]; rfl
theorem back_at (b8 : UInt8) (B : Int) (hv : (b8.toNat : Int) = B) (w : World) (g : Nat) (h : w.heap[g]? = some (.cells #[.int .u8 B] 5 (0, 0))) :
    (convert 62 9 (.slice (some ⟨g, 0, none⟩) 1 1)).run Tryd.prog w = .ok (.string (bs [b8])) w := by
  subst hv
  exact Own.run_back_block (rest := []) g 1 [b8] Tryd.underlying62 Tryd.underlying5 Tryd.underlying9 h
theorem back_blk (b8 : UInt8) (B : Int) (hv : (b8.toNat : Int) = B) {w w1 : World} (h : Below (w.alloc (.cells #[.int .u8 B] 5)).drew.heap.size (w.alloc (.cells #[.int .u8 B] 5)).drew w1) :
    (convert 62 9 (.slice (some ⟨w.heap.size, 0, none⟩) 1 1)).run Tryd.prog w1 = .ok (.string (bs [b8])) w1 :=
  back_at b8 B hv w1 w.heap.size ((h.block w.heap.size (by show w.heap.size < (w.alloc _).heap.size; simp)).trans (heap_alloc_new w _))
set_option maxRecDepth 100000 in
set_option maxHeartbeats 1000000 in
theorem refWord_any (f : Nat) : ∀ (n : Nat), n < 2 ^ (7 * f + 1) → f ≤ 9 → ∀ (w : World),
    Calls Tryd.prog 32 #[.int .u64 (n : Int)] w fun e w' => e = .returned (.string (bs (wbF f n))) ∧ Below w.heap.size w w' := by
  induction f with
  | zero =>
    intro n hn _ w
    have hn2 : n < 128 := by omega
    have hd : decide ((n : Int) < 128) = true := decide_eq_true (by omega)
    have hcv := Own.run_back_new (P := Tryd.prog) (w := w) (src := 62) (dst := 9) (T := 5) 1 #[.int .u8 (n : Int)] [UInt8.ofNat n] 1 Tryd.underlying62 Tryd.underlying5 Tryd.underlying9 (by simp [Own.byteVals, Nat.mod_eq_of_lt (show n < 256 by omega)]) rfl
    have h0 : (0 : Int) ≤ (n : Int) := by omega
    have h1 : (n : Int) ≤ 127 := by omega
    obtain ⟨M, hM⟩ : ∃ M : Int, (n : Int) = M := ⟨_, rfl⟩
    rw [hM] at hd hcv h0 h1 ⊢
    clear hM hn hn2
    go_enter Tryd.func32, Tryd.ntmps32
    go_wp2
    go_ret
    exact ⟨rfl, below_al (Below.refl _ _) _⟩
  | succ f ih =>
    intro n hn hf w
    by_cases hlt : n < 128
    · have hd : decide ((n : Int) < 128) = true := decide_eq_true (by omega)
      have hcv := Own.run_back_new (P := Tryd.prog) (w := w) (src := 62) (dst := 9) (T := 5) 1 #[.int .u8 (n : Int)] [UInt8.ofNat n] 1 Tryd.underlying62 Tryd.underlying5 Tryd.underlying9 (by simp [Own.byteVals, Nat.mod_eq_of_lt (show n < 256 by omega)]) rfl
      have h0 : (0 : Int) ≤ (n : Int) := by omega
      have h1 : (n : Int) ≤ 127 := by omega
      have hW : wbF (f + 1) n = [UInt8.ofNat n] := by rw [wbF, if_pos hlt]
      rw [hW]
      obtain ⟨M, hM⟩ : ∃ M : Int, (n : Int) = M := ⟨_, rfl⟩
      rw [hM] at hd hcv h0 h1 ⊢
      clear hM hn hlt hW ih
      go_enter Tryd.func32, Tryd.ntmps32
      go_wp2
      go_ret
      exact ⟨rfl, below_al (Below.refl _ _) _⟩
    · have hd : decide ((n : Int) < 128) = false := decide_eq_false (by omega)
      have hp : n / 128 < 2 ^ (7 * f + 1) := by
        rw [show 7 * (f + 1) + 1 = 7 * f + 1 + 7 by omega, Nat.pow_add] at hn
        omega
      have IH : Hid (∀ w, _) := fun w => ih (n / 128) hp (by omega) w
      have hW : wbF (f + 1) n = UInt8.ofNat (128 + n % 128) :: wbF f (n / 128) := by rw [wbF, if_neg hlt]
      rw [hW, ← bs_cons]
      have HV8 : Hid (((UInt8.ofNat (128 + n % 128)).toNat : Int) = ((128 + n % 128 : Nat) : Int)) := u8v _ (by omega)
      obtain ⟨M, hM⟩ : ∃ M : Int, Hid ((n : Int) = M) := ⟨_, rfl⟩
      obtain ⟨D, hD⟩ : ∃ D : Int, Hid (((n / 128 : Nat) : Int) = D) := ⟨_, rfl⟩
      obtain ⟨B, hB⟩ : ∃ B : Int, Hid (((128 + n % 128 : Nat) : Int) = B) := ⟨_, rfl⟩
      rw [hD.out] at IH
      rw [hB.out] at HV8
      rw [hM.out] at hd ⊢
      have hSL : (bs (wbF f (n / 128))).size ≤ 10 := by rw [bs_size]; have := wbF_len f (n / 128); omega
      have hSA : (bs [UInt8.ofNat (128 + n % 128)]).size = 1 := rfl
      generalize bs (wbF f (n / 128)) = SL at *
      generalize UInt8.ofNat (128 + n % 128) = b8 at *
      have h0 : 0 ≤ M := by have := hM.out; omega
      have e1 : M.tdiv 128 = D := by rw [Int.tdiv_eq_ediv_of_nonneg h0, ← hM.out, ← hD.out]; omega
      obtain ⟨R, hR⟩ : ∃ R : Int, M.tmod 128 = R := ⟨_, rfl⟩
      have hR2 : R = M % 128 := by rw [← hR, Int.tmod_eq_emod_of_nonneg h0]
      have e3 : IntKind.u64.wrap (128 + R) = B := by rw [IntKind.wrap_u64, hR2, ← hM.out, ← hB.out]; omega
      have e4 : IntKind.u8.wrap B = B := by rw [IntKind.wrap_u8, ← hB.out]; omega
      have e5 : IntKind.u64.wrap D = D := by
        have : (n / 128 : Nat) < 2 ^ 64 := by
          have h2 : 2 ^ (7 * f + 1) ≤ 2 ^ 64 := Nat.pow_le_pow_right (by omega) (by omega)
          omega
        rw [IntKind.wrap_u64, ← hD.out]; omega
      clear h0 hR2
      have hcA : ∀ w : World, (convert 62 9 (.slice (some ⟨w.heap.size, 0, none⟩) 1 1)).run Tryd.prog (w.alloc (.cells #[.int .u8 B] 5)) = .ok (.string (bs [b8])) (w.alloc (.cells #[.int .u8 B] 5)) := fun w => back_at b8 B HV8.out _ _ (heap_alloc_new w _)
      have hcB : ∀ w : World, (convert 62 9 (.slice (some ⟨w.heap.size, 0, none⟩) 1 1)).run Tryd.prog (w.alloc (.cells #[.int .u8 B] 5)).drew = .ok (.string (bs [b8])) (w.alloc (.cells #[.int .u8 B] 5)).drew := fun w => back_at b8 B HV8.out _ _ (heap_alloc_new w _)
      have HB0 : Hid (Below w.heap.size w w) := Below.refl _ _
      have HBK : Hid (∀ (w w1 : World), Below (w.alloc (.cells #[.int .u8 B] 5)).drew.heap.size (w.alloc (.cells #[.int .u8 B] 5)).drew w1 → (convert 62 9 (.slice (some ⟨w.heap.size, 0, none⟩) 1 1)).run Tryd.prog w1 = .ok (.string (bs [b8])) w1) := fun w w1 h => back_blk b8 B HV8.out h
      generalize bs [b8] = SA at *
      clear hn hlt hp hW ih
      go_enter Tryd.func32, Tryd.ntmps32
      go_wp2
      go_region_with (go_at_call 32; ((with_reducible refine (IH.out _).mono ?_); rintro e w1 ⟨rfl, hb1⟩; (try have hcx := HBK.out _ _ hb1); have HB1 := Lib.hid hb1; clear hb1))
      all_goals (go_wp2; go_ret)
      all_goals first
        | exact ⟨rfl, below2 ((below_al (Below.refl _ _) _).drew) HB1.out⟩
        | exact ⟨rfl, below_al (below2 ((Below.refl _ _).drew) HB1.out) _⟩
        | exact ⟨rfl, (below_al (below2 ((Below.refl _ _).drew) HB1.out) _).drew⟩
set_option maxRecDepth 100000 in
theorem refUint_any (n : Int) (hn : n ≤ 9223372036854775807) (w : World) :
    Calls Tryd.prog 18 #[.int .i64 n] w fun e w' => e = .returned (.string (bs (uintB n))) ∧ Below w.heap.size w w' := by
  by_cases h : n < 0
  · have d : decide (n < 0) = true := decide_eq_true h
    have HR : Hid (uintB n = []) := by show _ = _; unfold uintB; rw [if_pos h]
    rw [HR.out]
    clear h hn
    go_enter Tryd.func18, Tryd.ntmps18
    go_wp2
    go_ret
    exact ⟨rfl, Below.refl _ _⟩
  · have d : decide (n < 0) = false := decide_eq_false h
    have HR : Hid (uintB n = wb n.toNat) := by show _ = _; unfold uintB; rw [if_neg h]
    rw [HR.out]
    have CW : Hid (∀ w, _) := fun w => refWord_any 9 n.toNat (by omega) (Nat.le_refl _) w
    have hn0 : ((n.toNat : Nat) : Int) = n := by omega
    rw [hn0, show wbF 9 n.toNat = wb n.toNat from rfl] at CW
    have hw : IntKind.u64.wrap n = n := by rw [IntKind.wrap_u64]; omega
    clear h hn hn0
    generalize wb n.toNat = B at *
    go_enter Tryd.func18, Tryd.ntmps18
    go_wp2_with (go_at_call 32; ((with_reducible refine (CW.out _).mono ?_); rintro e w1 ⟨rfl, hb1⟩; have HB1 := Lib.hid hb1; clear hb1))
    go_ret
    exact ⟨rfl, HB1.out⟩
end Pen
end Go.Proofs.YtmaddebfoefckaaDoor
