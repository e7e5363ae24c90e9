/- Numbers as bytes: the program's walk. -/
import Derived.Test.YtmaddebfoefckaaDoorPenP
import Derived.Test.YtmaddebfoefckaaDoorOwn
import Derived.Deep.LoopGhost
import Derived.Deep.DeepMust
namespace Go.Proofs.YtmaddebfoefckaaDoor
open Go.RowKit
namespace Pen
theorem below2 {w a b : World} (h : Below w.heap.size w a) (h2 : Below a.heap.size a b) : Below w.heap.size w b := h.trans (h2.mono h.size)
theorem below_al {w x : World} (h : Below w.heap.size w x) (o : Obj) : Below w.heap.size w (x.alloc o) := h.alloc h.size o
theorem uinfo : (Tryd.prog.info? 5).map (fun i => (i.zero, i.size, i.bytes)) = some (some (.int .u8 0), 1, 1) := by kernel_rfl
theorem and127 (n : Nat) (h : n < 18446744073709551616) : bits .and .u64 (n : Int) 127 = ((n % 128 : Nat) : Int) := by
  show IntKind.u64.wrap ((BitVec.ofInt 64 (n : Int) &&& BitVec.ofInt 64 127).toNat : Int) = _
  rw [BitVec.toNat_and, show (BitVec.ofInt 64 127).toNat = 2 ^ 7 - 1 from rfl, Nat.and_two_pow_sub_one_eq_mod, show (BitVec.ofInt 64 (n : Int)).toNat = n by rw [BitVec.ofInt_natCast, BitVec.toNat_ofNat]; exact Nat.mod_eq_of_lt h, IntKind.wrap_u64]
  omega
theorem or128 (m : Nat) (h : m < 128) : bits .or .u8 128 (m : Int) = ((128 + m : Nat) : Int) := by
  have key : ∀ m : Fin 128, bits .or .u8 128 ((m.val : Nat) : Int) = ((128 + m.val : Nat) : Int) := by decide +kernel
  exact key ⟨m, h⟩
theorem u8v (m : Nat) (h : m < 256) : ((UInt8.ofNat m).toNat : Int) = (m : Int) := by
  have e : (UInt8.ofNat m).toNat = m % 256 := by simp
  rw [e, Nat.mod_eq_of_lt h]
theorem back_form {w : World} {base : Nat} {e : TypeId} {v : Value} {b l : List UInt8} {m : UInt8} {M : Int} (hr : l = b ++ [m]) (hv : (m.toNat : Int) = M) (h : w.ownsRow base e 1 v (b.length + 1) (Own.byteVals b ++ [.int .u8 M])) : w.ownsRow base e 1 v l.length (Own.byteVals l) := by
  subst hr
  subst hv
  rw [List.length_append, List.length_singleton, Own.byteVals_append]
  exact h
set_option maxRecDepth 100000 in
set_option maxHeartbeats 1000000 in
theorem word_any (n : Nat) (hn : n < 18446744073709551616) (w : World) :
    Calls Tryd.prog 31 #[.int .u64 (n : Int)] w fun e w' => e = .returned (.string (bs (wb n))) ∧ Below w.heap.size w w' := by
  obtain ⟨i0, hi, hz0, hz1, hz2⟩ := info_parts uinfo
  have HN := Lib.hid hn
  clear hn
  obtain ⟨V, hV⟩ : ∃ V : Int, Hid ((n : Int) = V) := ⟨_, rfl⟩
  rw [hV.out]
  go_enter Tryd.func31, Tryd.ntmps31
  go_wp2
  go_loopg [0, 3] 9 (fun gk v0 v3 wr => ∃ (m : Nat) (b : List UInt8), v0 = .int .u64 (m : Int) ∧ Hid (b.length = 9 - gk ∧ gk ≤ 9 ∧ m < 2 ^ (7 * gk + 1) ∧ wb n = b ++ wbF gk m) ∧ Hid (wr.ownsRow w.heap.size 5 1 v3 b.length (Own.byteVals b)) ∧ Hid (Below w.heap.size w wr))
  case atStart => exact ⟨n, [], by rw [hV.out], ⟨rfl, Nat.le_refl _, HN.out, rfl⟩, World.ownsRow_nil _ _ _ _, Below.refl _ _⟩
  case round =>
    obtain ⟨m, b, rfl, HM, HO, HB⟩ := hrel
    obtain ⟨M, hM⟩ : ∃ M : Int, Hid ((m : Int) = M) := ⟨_, rfl⟩
    have HBL : Hid (b.length ≤ 9) := by have := HM.out; show _ ≤ _; omega
    have hm64 : m < 18446744073709551616 := by
      have h1 := HM.out.2.2.1
      have h2 : 2 ^ (7 * gk + 1) ≤ 2 ^ 64 := Nat.pow_le_pow_right (by omega) (by have := HM.out; omega)
      omega
    by_cases hlt : 127 < m
    · have hd : decide ((127 : Int) < M) = true := decide_eq_true (by have := hM.out; omega)
      have hgk : 1 ≤ gk := by
        by_cases e : gk = 0
        · have := HM.out.2.2.1
          rw [e] at this
          omega
        · omega
      obtain ⟨G, hG⟩ : ∃ G, Hid (gk = G + 1) := ⟨gk - 1, by show _ = _; omega⟩
      have hA := and127 m hm64
      have hO := or128 (m % 128) (by omega)
      have hW : wbF gk m = UInt8.ofNat (128 + m % 128) :: wbF G (m / 128) := by rw [hG.out, wbF, if_neg (by omega)]
      have HW := Lib.hid hW
      have HP : Hid (m / 128 < 2 ^ (7 * G + 1)) := by
        have h1 := HM.out.2.2.1
        rw [hG.out, show 7 * (G + 1) + 1 = 7 * G + 1 + 7 by omega, Nat.pow_add] at h1
        show _ < _
        omega
      have HV8 : Hid (((UInt8.ofNat (128 + m % 128)).toNat : Int) = ((128 + m % 128 : Nat) : Int)) := by
        exact u8v (128 + m % 128) (by omega)
      obtain ⟨A1, hA1⟩ : ∃ A1 : Int, Hid (((m % 128 : Nat) : Int) = A1) := ⟨_, rfl⟩
      obtain ⟨A2, hA2⟩ : ∃ A2 : Int, Hid (((128 + m % 128 : Nat) : Int) = A2) := ⟨_, rfl⟩
      have a0 : 0 ≤ A1 := by have := hA1.out; omega
      have a1 : A1 ≤ 127 := by have := hA1.out; omega
      rw [hA1.out, hM.out] at hA
      rw [hA1.out, hA2.out] at hO
      rw [hA2.out] at HV8
      have M0 : 0 ≤ M := by have := hM.out; omega
      obtain ⟨D, hD⟩ : ∃ D : Int, M / 128 = D := ⟨_, rfl⟩
      have HD : Hid (((m / 128 : Nat) : Int) = D) := by show _ = _; rw [← hD, ← hM.out]; omega
      rw [hM.out]
      clear hlt hm64 hgk hW
      go_wp2_with (at_builtin; go_must (refine Own.list_one rfl (.tmp 6) (.tmp 11) 62 rfl w.heap.size 5 i0 _ 1 Tryd.underlying62 hi hz0 hz1 hz2 rfl _ _ _ rfl _ _ _ rfl (HO.out.alloc _) (Own.cell_new _ _ _) rfl ?h1 ?h2 ?h3 ?_; (case h1 => have := HBL.out; unfold maxLen; omega); (case h2 => have := HBL.out; omega); (case h3 => have := HB.out.size; simp; omega); intro v3' w2 hown2 hgrow2; have HB2 := Lib.hid ((below_al HB.out _).grown hgrow2 (below_al HB.out _).size (Own.own_block HO.out (Nat.le_refl _))); have HO2 := Lib.hid hown2; clear hown2 hgrow2))
      go_roundg G
      case measure => have := hG.out; omega
      case rel =>
        refine ⟨m / 128, b ++ [UInt8.ofNat (128 + m % 128)], by rw [HD.out], ⟨?_, ?_, HP.out, ?_⟩, ?_, HB2⟩
        · have := HM.out; have := hG.out; rw [List.length_append, List.length_singleton]; omega
        · have := HM.out; have := hG.out; omega
        · have := HM.out.2.2.2; rw [this, HW.out, List.append_assoc]; rfl
        · rw [List.length_append, List.length_singleton, Own.byteVals_append]
          have h := HO2.out
          rw [← HV8.out] at h
          exact h
    · have hm : m < 128 := by omega
      have hd : decide ((127 : Int) < M) = false := decide_eq_false (by have := hM.out; omega)
      have hW : wbF gk m = [UInt8.ofNat m] := by
        cases gk with
        | zero => rfl
        | succ g => rw [wbF, if_pos hm]
      have HR : Hid (wb n = b ++ [UInt8.ofNat m]) := by show _ = _; rw [HM.out.2.2.2, hW]
      have HV8 : Hid (((UInt8.ofNat m).toNat : Int) = M) := by show _ = _; rw [u8v m (by omega)]; exact hM.out
      have M0 : 0 ≤ M := by have := hM.out; omega
      have M1 : M ≤ 127 := by have := hM.out; omega
      rw [hM.out]
      clear hlt hm64 hm hW
      go_wp2_with (at_builtin; go_must (refine Own.list_one rfl (.tmp 15) (.tmp 18) 62 rfl w.heap.size 5 i0 _ 1 Tryd.underlying62 hi hz0 hz1 hz2 rfl _ _ _ rfl _ _ _ rfl (HO.out.alloc _) (Own.cell_new _ _ _) rfl ?h1 ?h2 ?h3 ?_; (case h1 => have := HBL.out; unfold maxLen; omega); (case h2 => have := HBL.out; omega); (case h3 => have := HB.out.size; simp; omega); intro v3' w2 hown2 hgrow2; have HB2 := Lib.hid ((below_al HB.out _).grown hgrow2 (below_al HB.out _).size (Own.own_block HO.out (Nat.le_refl _))); have hback := Own.run_back (P := Tryd.prog) (l := wb n) (dst := 9) Tryd.underlying62 Tryd.underlying5 Tryd.underlying9 (back_form HR.out HV8.out hown2); clear hown2 hgrow2))
      go_ret
      exact ⟨rfl, HB2.out⟩
end Pen
end Go.Proofs.YtmaddebfoefckaaDoor
