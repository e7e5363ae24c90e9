/- Texts put together: PenP, PenW, PenU, PenL, PenR, PenR2, PenS, PenS2. -/
import Derived.Test.YtfincohdchnniaaChecked
import Derived.WalkKit
import Derived.Below
import Derived.Test.YtfincohdchnniaaBa
import Derived.Deep.LoopGhost
import Derived.Deep.DeepMust
import Derived.Deep.RegionWith
import Derived.Deep.QuietTactic
import Derived.Deep.OwnRows
import Derived.BigQuiet
set_option linter.all false
namespace Go.Proofs.Ytfincohdchnniaa
open Go.RowKit
namespace Pen
def bs (l : List UInt8) : ByteArray := ⟨l.toArray⟩
theorem bs_size (l : List UInt8) : (bs l).size = l.length := by unfold bs; simp [ByteArray.size]
theorem bs_toList (l : List UInt8) : (bs l).data.toList = l := rfl
theorem bs_append (a b : List UInt8) : bs a ++ bs b = bs (a ++ b) := by
  apply ByteArray.ext
  simp [bs, ByteArray.data_append]
/-- A word's bytes; so many more than one may come. -/
def wbF : Nat → Nat → List UInt8
  | 0, n => [UInt8.ofNat n]
  | f + 1, n => if n < 128 then [UInt8.ofNat n] else UInt8.ofNat (128 + n % 128) :: wbF f (n / 128)
def wb (n : Nat) : List UInt8 := wbF 9 n
/-- A number's bytes. -/
def uintB (n : Int) : List UInt8 := if n < 0 then [] else wb n.toNat
theorem wbF_len (f n : Nat) : 1 ≤ (wbF f n).length ∧ (wbF f n).length ≤ f + 1 := by
  induction f generalizing n with
  | zero => simp [wbF]
  | succ f ih =>
    rw [wbF]
    split
    · simp
    · have := ih (n / 128)
      simp only [List.length_cons]; omega
theorem uintB_len (n : Int) : (uintB n).length ≤ 10 := by
  unfold uintB wb
  split
  · simp
  · have := wbF_len 9 n.toNat; omega
/-- A word that stands there: what it is, and what is left. -/
def rdF : Nat → Nat → Nat → List UInt8 → Option (Nat × List UInt8)
  | 0, _, _, _ => none
  | _ + 1, _, _, [] => none
  | f + 1, k, n, b :: l => if (b = 0 ∧ 0 < k) ∨ (k = 9 ∧ 1 < b.toNat) then none else if b.toNat < 128 then some (n + b.toNat % 128 * 2 ^ (7 * k), l) else rdF f (k + 1) (n + b.toNat % 128 * 2 ^ (7 * k)) l
def rd (l : List UInt8) : Option (Nat × List UInt8) := rdF 10 0 0 l
/-- A number at most so great, out of what a reader has left; none: it is bad. -/
def uintS (most : Int) : Option (List UInt8) → Int × Option (List UInt8)
  | none => (0, none)
  | some l => match rd l with
    | none => (0, none)
    | some (n, l') => if (9223372036854775807 : Int) < (n : Int) ∨ most < (n : Int) then (0, none) else ((n : Int), some l')
def doneS : Option (List UInt8) → Bool
  | none => false
  | some l => l.isEmpty
theorem rdF_small (f k n : Nat) (l : List UInt8) (r : Nat × List UInt8) (hf : f + k = 10) (hn : n < 2 ^ (7 * k)) (h : rdF f k n l = some r) : r.1 < 2 ^ 64 ∧ r.2.length < l.length := by
  induction f generalizing k n l with
  | zero => cases l <;> simp [rdF] at h
  | succ f ih =>
    cases l with
    | nil => simp [rdF] at h
    | cons b l =>
      rw [rdF] at h
      split at h
      · cases h
      · rename_i hc
        have hb : b.toNat < 256 := b.toNat_lt
        have hk : k ≤ 9 := by omega
        have hmod : b.toNat % 128 ≤ 127 := by omega
        have hstep : n + b.toNat % 128 * 2 ^ (7 * k) < 2 ^ (7 * (k + 1)) := by
          rw [show 7 * (k + 1) = 7 * k + 7 by omega, Nat.pow_add]
          have : b.toNat % 128 * 2 ^ (7 * k) ≤ 127 * 2 ^ (7 * k) := Nat.mul_le_mul_right _ hmod
          omega
        split at h
        · cases h
          refine ⟨?_, by simp⟩
          simp only
          by_cases h9 : k = 9
          · subst h9
            have : b.toNat ≤ 1 := by omega
            have h1 : b.toNat % 128 * 2 ^ (7 * 9) ≤ 1 * 2 ^ (7 * 9) := Nat.mul_le_mul_right _ (by omega)
            omega
          · have h2 : 2 ^ (7 * (k + 1)) ≤ 2 ^ 63 := Nat.pow_le_pow_right (by omega) (by omega)
            omega
        · have := ih (k + 1) _ l (by omega) hstep h
          refine ⟨this.1, by simp only [List.length_cons]; omega⟩
theorem rd_small {l : List UInt8} {r : Nat × List UInt8} (h : rd l = some r) : r.1 < 2 ^ 64 ∧ r.2.length < l.length := rdF_small 10 0 0 l r rfl (by decide) h
end Pen
end Go.Proofs.Ytfincohdchnniaa
namespace Go.Proofs.Ytfincohdchnniaa
open Go.RowKit
namespace Pen
theorem below2 {w a b : World} (h : Below w.heap.size w a) (h2 : Below a.heap.size a b) : Below w.heap.size w b := h.trans (h2.mono h.size)
theorem below_al {w x : World} (h : Below w.heap.size w x) (o : Obj) : Below w.heap.size w (x.alloc o) := h.alloc h.size o
theorem uinfo : (Try.prog.info? 5).map (fun i => (i.zero, i.size, i.bytes)) = some (some (.int .u8 0), 1, 1) := by kernel_rfl
theorem and127 (n : Nat) (h : n < 18446744073709551616) : bits .and .u64 (n : Int) 127 = ((n % 128 : Nat) : Int) := by
  show IntKind.u64.wrap ((BitVec.ofInt 64 (n : Int) &&& BitVec.ofInt 64 127).toNat : Int) = _
  rw [BitVec.toNat_and, show (BitVec.ofInt 64 127).toNat = 2 ^ 7 - 1 from rfl, Nat.and_two_pow_sub_one_eq_mod, show (BitVec.ofInt 64 (n : Int)).toNat = n by rw [BitVec.ofInt_natCast, BitVec.toNat_ofNat]; exact Nat.mod_eq_of_lt h, IntKind.wrap_u64]
  omega
theorem or128 (m : Nat) (h : m < 128) : bits .or .u8 128 (m : Int) = ((128 + m : Nat) : Int) := by
  have key : ∀ m : Fin 128, bits .or .u8 128 ((m.val : Nat) : Int) = ((128 + m.val : Nat) : Int) := by decide +kernel
  exact key ⟨m, h⟩
theorem u8v (m : Nat) (h : m < 256) : ((UInt8.ofNat m).toNat : Int) = (m : Int) := by
  have e : (UInt8.ofNat m).toNat = m % 256 := by simp
  rw [e, Nat.mod_eq_of_lt h]
theorem back_form {w : World} {base : Nat} {e : TypeId} {v : Value} {b l : List UInt8} {m : UInt8} {M : Int} (hr : l = b ++ [m]) (hv : (m.toNat : Int) = M) (h : w.ownsRow base e 1 v (b.length + 1) (Own.byteVals b ++ [.int .u8 M])) : w.ownsRow base e 1 v l.length (Own.byteVals l) := by
  subst hr
  subst hv
  rw [List.length_append, List.length_singleton, Own.byteVals_append]
  exact h
set_option maxRecDepth 100000 in
set_option maxHeartbeats 1000000 in
theorem word_any (n : Nat) (hn : n < 18446744073709551616) (w : World) :
    Calls Try.prog 49 #[.int .u64 (n : Int)] w fun e w' => e = .returned (.string (bs (wb n))) ∧ Below w.heap.size w w' := by
  obtain ⟨i0, hi, hz0, hz1, hz2⟩ := info_parts uinfo
  have HN := Lib.hid hn
  clear hn
  obtain ⟨V, hV⟩ : ∃ V : Int, Hid ((n : Int) = V) := ⟨_, rfl⟩
  rw [hV.out]
  go_enter Try.func49, Try.ntmps49
  go_wp2
  go_loopg [0, 3] 9 (fun gk v0 v3 wr => ∃ (m : Nat) (b : List UInt8), v0 = .int .u64 (m : Int) ∧ Hid (b.length = 9 - gk ∧ gk ≤ 9 ∧ m < 2 ^ (7 * gk + 1) ∧ wb n = b ++ wbF gk m) ∧ Hid (wr.ownsRow w.heap.size 5 1 v3 b.length (Own.byteVals b)) ∧ Hid (Below w.heap.size w wr))
  case atStart => exact ⟨n, [], by rw [hV.out], ⟨rfl, Nat.le_refl _, HN.out, rfl⟩, World.ownsRow_nil _ _ _ _, Below.refl _ _⟩
  case round =>
    obtain ⟨m, b, rfl, HM, HO, HB⟩ := hrel
    obtain ⟨M, hM⟩ : ∃ M : Int, Hid ((m : Int) = M) := ⟨_, rfl⟩
    have HBL : Hid (b.length ≤ 9) := by have := HM.out; show _ ≤ _; omega
    have hm64 : m < 18446744073709551616 := by
      have h1 := HM.out.2.2.1
      have h2 : 2 ^ (7 * gk + 1) ≤ 2 ^ 64 := Nat.pow_le_pow_right (by omega) (by have := HM.out; omega)
      omega
    by_cases hlt : 127 < m
    · have hd : decide ((127 : Int) < M) = true := decide_eq_true (by have := hM.out; omega)
      have hgk : 1 ≤ gk := by
        by_cases e : gk = 0
        · have := HM.out.2.2.1
          rw [e] at this
          omega
        · omega
      obtain ⟨G, hG⟩ : ∃ G, Hid (gk = G + 1) := ⟨gk - 1, by show _ = _; omega⟩
      have hA := and127 m hm64
      have hO := or128 (m % 128) (by omega)
      have hW : wbF gk m = UInt8.ofNat (128 + m % 128) :: wbF G (m / 128) := by rw [hG.out, wbF, if_neg (by omega)]
      have HW := Lib.hid hW
      have HP : Hid (m / 128 < 2 ^ (7 * G + 1)) := by
        have h1 := HM.out.2.2.1
        rw [hG.out, show 7 * (G + 1) + 1 = 7 * G + 1 + 7 by omega, Nat.pow_add] at h1
        show _ < _
        omega
      have HV8 : Hid (((UInt8.ofNat (128 + m % 128)).toNat : Int) = ((128 + m % 128 : Nat) : Int)) := by
        exact u8v (128 + m % 128) (by omega)
      obtain ⟨A1, hA1⟩ : ∃ A1 : Int, Hid (((m % 128 : Nat) : Int) = A1) := ⟨_, rfl⟩
      obtain ⟨A2, hA2⟩ : ∃ A2 : Int, Hid (((128 + m % 128 : Nat) : Int) = A2) := ⟨_, rfl⟩
      have a0 : 0 ≤ A1 := by have := hA1.out; omega
      have a1 : A1 ≤ 127 := by have := hA1.out; omega
      rw [hA1.out, hM.out] at hA
      rw [hA1.out, hA2.out] at hO
      rw [hA2.out] at HV8
      have M0 : 0 ≤ M := by have := hM.out; omega
      obtain ⟨D, hD⟩ : ∃ D : Int, M / 128 = D := ⟨_, rfl⟩
      have HD : Hid (((m / 128 : Nat) : Int) = D) := by show _ = _; rw [← hD, ← hM.out]; omega
      rw [hM.out]
      clear hlt hm64 hgk hW
      go_wp2_with (at_builtin; go_must (refine Own.list_one rfl (.tmp 6) (.tmp 11) 100 rfl w.heap.size 5 i0 _ 1 Try.underlying100 hi hz0 hz1 hz2 rfl _ _ _ rfl _ _ _ rfl (HO.out.alloc _) (Own.cell_new _ _ _) rfl ?h1 ?h2 ?h3 ?_; (case h1 => have := HBL.out; unfold maxLen; omega); (case h2 => have := HBL.out; omega); (case h3 => have := HB.out.size; simp; omega); intro v3' w2 hown2 hgrow2; have HB2 := Lib.hid ((below_al HB.out _).grown hgrow2 (below_al HB.out _).size (Own.own_block HO.out (Nat.le_refl _))); have HO2 := Lib.hid hown2; clear hown2 hgrow2))
      go_roundg G
      case measure => have := hG.out; omega
      case rel =>
        refine ⟨m / 128, b ++ [UInt8.ofNat (128 + m % 128)], by rw [HD.out], ⟨?_, ?_, HP.out, ?_⟩, ?_, HB2⟩
        · have := HM.out; have := hG.out; rw [List.length_append, List.length_singleton]; omega
        · have := HM.out; have := hG.out; omega
        · have := HM.out.2.2.2; rw [this, HW.out, List.append_assoc]; rfl
        · rw [List.length_append, List.length_singleton, Own.byteVals_append]
          have h := HO2.out
          rw [← HV8.out] at h
          exact h
    · have hm : m < 128 := by omega
      have hd : decide ((127 : Int) < M) = false := decide_eq_false (by have := hM.out; omega)
      have hW : wbF gk m = [UInt8.ofNat m] := by
        cases gk with
        | zero => rfl
        | succ g => rw [wbF, if_pos hm]
      have HR : Hid (wb n = b ++ [UInt8.ofNat m]) := by show _ = _; rw [HM.out.2.2.2, hW]
      have HV8 : Hid (((UInt8.ofNat m).toNat : Int) = M) := by show _ = _; rw [u8v m (by omega)]; exact hM.out
      have M0 : 0 ≤ M := by have := hM.out; omega
      have M1 : M ≤ 127 := by have := hM.out; omega
      rw [hM.out]
      clear hlt hm64 hm hW
      go_wp2_with (at_builtin; go_must (refine Own.list_one rfl (.tmp 15) (.tmp 18) 100 rfl w.heap.size 5 i0 _ 1 Try.underlying100 hi hz0 hz1 hz2 rfl _ _ _ rfl _ _ _ rfl (HO.out.alloc _) (Own.cell_new _ _ _) rfl ?h1 ?h2 ?h3 ?_; (case h1 => have := HBL.out; unfold maxLen; omega); (case h2 => have := HBL.out; omega); (case h3 => have := HB.out.size; simp; omega); intro v3' w2 hown2 hgrow2; have HB2 := Lib.hid ((below_al HB.out _).grown hgrow2 (below_al HB.out _).size (Own.own_block HO.out (Nat.le_refl _))); have hback := Own.run_back (P := Try.prog) (l := wb n) (dst := 9) Try.underlying100 Try.underlying5 Try.underlying9 (back_form HR.out HV8.out hown2); clear hown2 hgrow2))
      go_ret
      exact ⟨rfl, HB2.out⟩
end Pen
end Go.Proofs.Ytfincohdchnniaa
namespace Go.Proofs.Ytfincohdchnniaa
open Go.RowKit
namespace Pen
set_option maxRecDepth 100000 in
theorem uint_any (n : Int) (hn : n ≤ 9223372036854775807) (w : World) :
    Calls Try.prog 26 #[.int .i64 n] w fun e w' => e = .returned (.string (bs (uintB n))) ∧ Below w.heap.size w w' := by
  by_cases h : n < 0
  · have d : decide (n < 0) = true := decide_eq_true h
    have HR : Hid (uintB n = []) := by show _ = _; unfold uintB; rw [if_pos h]
    rw [HR.out]
    clear h hn
    go_enter Try.func26, Try.ntmps26
    go_wp2
    go_ret
    exact ⟨rfl, Below.refl _ _⟩
  · have d : decide (n < 0) = false := decide_eq_false h
    have HR : Hid (uintB n = wb n.toNat) := by show _ = _; unfold uintB; rw [if_neg h]
    rw [HR.out]
    have CW : Hid (∀ w, _) := fun w => word_any n.toNat (by omega) w
    have hn0 : ((n.toNat : Nat) : Int) = n := by omega
    rw [hn0] at CW
    have hw : IntKind.u64.wrap n = n := by rw [IntKind.wrap_u64]; omega
    clear h hn hn0
    generalize wb n.toNat = B at *
    go_enter Try.func26, Try.ntmps26
    go_wp2_with (go_at_call 49; ((with_reducible refine (CW.out _).mono ?_); rintro e w1 ⟨rfl, hb1⟩; have HB1 := Lib.hid hb1; clear hb1))
    go_ret
    exact ⟨rfl, HB1.out⟩
theorem bs_cons (b : UInt8) (l : List UInt8) : bs [b] ++ bs l = bs (b :: l) := by rw [bs_append]; rfl
theorem back_at (b8 : UInt8) (B : Int) (hv : (b8.toNat : Int) = B) (w : World) (g : Nat) (h : w.heap[g]? = some (.cells #[.int .u8 B] 5 (0, 0))) :
    (convert 100 9 (.slice (some ⟨g, 0, none⟩) 1 1)).run Try.prog w = .ok (.string (bs [b8])) w := by
  subst hv
  exact Own.run_back_block (rest := []) g 1 [b8] Try.underlying100 Try.underlying5 Try.underlying9 h
theorem back_blk (b8 : UInt8) (B : Int) (hv : (b8.toNat : Int) = B) {w w1 : World} (h : Below (w.alloc (.cells #[.int .u8 B] 5)).drew.heap.size (w.alloc (.cells #[.int .u8 B] 5)).drew w1) :
    (convert 100 9 (.slice (some ⟨w.heap.size, 0, none⟩) 1 1)).run Try.prog w1 = .ok (.string (bs [b8])) w1 :=
  back_at b8 B hv w1 w.heap.size ((h.block w.heap.size (by show w.heap.size < (w.alloc _).heap.size; simp)).trans (heap_alloc_new w _))
set_option maxRecDepth 100000 in
set_option maxHeartbeats 1000000 in
theorem refWord_any (f : Nat) : ∀ (n : Nat), n < 2 ^ (7 * f + 1) → f ≤ 9 → ∀ (w : World),
    Calls Try.prog 68 #[.int .u64 (n : Int)] w fun e w' => e = .returned (.string (bs (wbF f n))) ∧ Below w.heap.size w w' := by
  induction f with
  | zero =>
    intro n hn _ w
    have hn2 : n < 128 := by omega
    have hd : decide ((n : Int) < 128) = true := decide_eq_true (by omega)
    have hcv := Own.run_back_new (P := Try.prog) (w := w) (src := 100) (dst := 9) (T := 5) 1 #[.int .u8 (n : Int)] [UInt8.ofNat n] 1 Try.underlying100 Try.underlying5 Try.underlying9 (by simp [Own.byteVals, Nat.mod_eq_of_lt (show n < 256 by omega)]) rfl
    have h0 : (0 : Int) ≤ (n : Int) := by omega
    have h1 : (n : Int) ≤ 127 := by omega
    obtain ⟨M, hM⟩ : ∃ M : Int, (n : Int) = M := ⟨_, rfl⟩
    rw [hM] at hd hcv h0 h1 ⊢
    clear hM hn hn2
    go_enter Try.func68, Try.ntmps68
    go_wp2
    go_ret
    exact ⟨rfl, below_al (Below.refl _ _) _⟩
  | succ f ih =>
    intro n hn hf w
    by_cases hlt : n < 128
    · have hd : decide ((n : Int) < 128) = true := decide_eq_true (by omega)
      have hcv := Own.run_back_new (P := Try.prog) (w := w) (src := 100) (dst := 9) (T := 5) 1 #[.int .u8 (n : Int)] [UInt8.ofNat n] 1 Try.underlying100 Try.underlying5 Try.underlying9 (by simp [Own.byteVals, Nat.mod_eq_of_lt (show n < 256 by omega)]) rfl
      have h0 : (0 : Int) ≤ (n : Int) := by omega
      have h1 : (n : Int) ≤ 127 := by omega
      have hW : wbF (f + 1) n = [UInt8.ofNat n] := by rw [wbF, if_pos hlt]
      rw [hW]
      obtain ⟨M, hM⟩ : ∃ M : Int, (n : Int) = M := ⟨_, rfl⟩
      rw [hM] at hd hcv h0 h1 ⊢
      clear hM hn hlt hW ih
      go_enter Try.func68, Try.ntmps68
      go_wp2
      go_ret
      exact ⟨rfl, below_al (Below.refl _ _) _⟩
    · have hd : decide ((n : Int) < 128) = false := decide_eq_false (by omega)
      have hp : n / 128 < 2 ^ (7 * f + 1) := by
        rw [show 7 * (f + 1) + 1 = 7 * f + 1 + 7 by omega, Nat.pow_add] at hn
        omega
      have IH : Hid (∀ w, _) := fun w => ih (n / 128) hp (by omega) w
      have hW : wbF (f + 1) n = UInt8.ofNat (128 + n % 128) :: wbF f (n / 128) := by rw [wbF, if_neg hlt]
      rw [hW, ← bs_cons]
      have HV8 : Hid (((UInt8.ofNat (128 + n % 128)).toNat : Int) = ((128 + n % 128 : Nat) : Int)) := u8v _ (by omega)
      obtain ⟨M, hM⟩ : ∃ M : Int, Hid ((n : Int) = M) := ⟨_, rfl⟩
      obtain ⟨D, hD⟩ : ∃ D : Int, Hid (((n / 128 : Nat) : Int) = D) := ⟨_, rfl⟩
      obtain ⟨B, hB⟩ : ∃ B : Int, Hid (((128 + n % 128 : Nat) : Int) = B) := ⟨_, rfl⟩
      rw [hD.out] at IH
      rw [hB.out] at HV8
      rw [hM.out] at hd ⊢
      have hSL : (bs (wbF f (n / 128))).size ≤ 10 := by rw [bs_size]; have := wbF_len f (n / 128); omega
      have hSA : (bs [UInt8.ofNat (128 + n % 128)]).size = 1 := rfl
      generalize bs (wbF f (n / 128)) = SL at *
      generalize UInt8.ofNat (128 + n % 128) = b8 at *
      have h0 : 0 ≤ M := by have := hM.out; omega
      have e1 : M.tdiv 128 = D := by rw [Int.tdiv_eq_ediv_of_nonneg h0, ← hM.out, ← hD.out]; omega
      obtain ⟨R, hR⟩ : ∃ R : Int, M.tmod 128 = R := ⟨_, rfl⟩
      have hR2 : R = M % 128 := by rw [← hR, Int.tmod_eq_emod_of_nonneg h0]
      have e3 : IntKind.u64.wrap (128 + R) = B := by rw [IntKind.wrap_u64, hR2, ← hM.out, ← hB.out]; omega
      have e4 : IntKind.u8.wrap B = B := by rw [IntKind.wrap_u8, ← hB.out]; omega
      have e5 : IntKind.u64.wrap D = D := by
        have : (n / 128 : Nat) < 2 ^ 64 := by
          have h2 : 2 ^ (7 * f + 1) ≤ 2 ^ 64 := Nat.pow_le_pow_right (by omega) (by omega)
          omega
        rw [IntKind.wrap_u64, ← hD.out]; omega
      clear h0 hR2
      have hcA : ∀ w : World, (convert 100 9 (.slice (some ⟨w.heap.size, 0, none⟩) 1 1)).run Try.prog (w.alloc (.cells #[.int .u8 B] 5)) = .ok (.string (bs [b8])) (w.alloc (.cells #[.int .u8 B] 5)) := fun w => back_at b8 B HV8.out _ _ (heap_alloc_new w _)
      have hcB : ∀ w : World, (convert 100 9 (.slice (some ⟨w.heap.size, 0, none⟩) 1 1)).run Try.prog (w.alloc (.cells #[.int .u8 B] 5)).drew = .ok (.string (bs [b8])) (w.alloc (.cells #[.int .u8 B] 5)).drew := fun w => back_at b8 B HV8.out _ _ (heap_alloc_new w _)
      have HB0 : Hid (Below w.heap.size w w) := Below.refl _ _
      have HBK : Hid (∀ (w w1 : World), Below (w.alloc (.cells #[.int .u8 B] 5)).drew.heap.size (w.alloc (.cells #[.int .u8 B] 5)).drew w1 → (convert 100 9 (.slice (some ⟨w.heap.size, 0, none⟩) 1 1)).run Try.prog w1 = .ok (.string (bs [b8])) w1) := fun w w1 h => back_blk b8 B HV8.out h
      generalize bs [b8] = SA at *
      clear hn hlt hp hW ih
      go_enter Try.func68, Try.ntmps68
      go_wp2
      go_region_with (go_at_call 68; ((with_reducible refine (IH.out _).mono ?_); rintro e w1 ⟨rfl, hb1⟩; (try have hcx := HBK.out _ _ hb1); have HB1 := Lib.hid hb1; clear hb1))
      all_goals (go_wp2; go_ret)
      all_goals first
        | exact ⟨rfl, below2 ((below_al (Below.refl _ _) _).drew) HB1.out⟩
        | exact ⟨rfl, below_al (below2 ((Below.refl _ _).drew) HB1.out) _⟩
        | exact ⟨rfl, (below_al (below2 ((Below.refl _ _).drew) HB1.out) _).drew⟩
set_option maxRecDepth 100000 in
theorem refUint_any (n : Int) (hn : n ≤ 9223372036854775807) (w : World) :
    Calls Try.prog 50 #[.int .i64 n] w fun e w' => e = .returned (.string (bs (uintB n))) ∧ Below w.heap.size w w' := by
  by_cases h : n < 0
  · have d : decide (n < 0) = true := decide_eq_true h
    have HR : Hid (uintB n = []) := by show _ = _; unfold uintB; rw [if_pos h]
    rw [HR.out]
    clear h hn
    go_enter Try.func50, Try.ntmps50
    go_wp2
    go_ret
    exact ⟨rfl, Below.refl _ _⟩
  · have d : decide (n < 0) = false := decide_eq_false h
    have HR : Hid (uintB n = wb n.toNat) := by show _ = _; unfold uintB; rw [if_neg h]
    rw [HR.out]
    have CW : Hid (∀ w, _) := fun w => refWord_any 9 n.toNat (by omega) (Nat.le_refl _) w
    have hn0 : ((n.toNat : Nat) : Int) = n := by omega
    rw [hn0, show wbF 9 n.toNat = wb n.toNat from rfl] at CW
    have hw : IntKind.u64.wrap n = n := by rw [IntKind.wrap_u64]; omega
    clear h hn hn0
    generalize wb n.toNat = B at *
    go_enter Try.func50, Try.ntmps50
    go_wp2_with (go_at_call 68; ((with_reducible refine (CW.out _).mono ?_); rintro e w1 ⟨rfl, hb1⟩; have HB1 := Lib.hid hb1; clear hb1))
    go_ret
    exact ⟨rfl, HB1.out⟩
end Pen
end Go.Proofs.Ytfincohdchnniaa
namespace Go.Proofs.Ytfincohdchnniaa
open Go.RowKit
namespace Pen
theorem rdF_wbF (f : Nat) : ∀ (k a n : Nat) (l : List UInt8), f + k = 9 → n < 2 ^ (7 * f + 1) → (0 < k → 0 < n) → rdF (f + 1) k a (wbF f n ++ l) = some (a + n * 2 ^ (7 * k), l) := by
  induction f with
  | zero =>
    intro k a n l hk hn h0
    have hk9 : k = 9 := by omega
    subst hk9
    have hn1 : n = 1 := by have := h0 (by omega); simp at hn; omega
    subst hn1
    show rdF 1 9 a (UInt8.ofNat 1 :: l) = _
    rw [rdF, if_neg (by decide), if_pos (by decide)]
    rfl
  | succ f ih =>
    intro k a n l hk hn h0
    rw [wbF]
    by_cases hc : n < 128
    · rw [if_pos hc]
      have hb : (UInt8.ofNat n).toNat = n := by rw [UInt8.toNat_ofNat']; omega
      show rdF (f + 2) k a (UInt8.ofNat n :: l) = _
      rw [rdF, if_neg (fun h => by
        rcases h with ⟨h1, h2⟩ | ⟨h1, _⟩
        · have := h0 h2
          have h3 := congrArg UInt8.toNat h1
          rw [hb] at h3
          change n = 0 at h3
          omega
        · omega), if_pos (by rw [hb]; exact hc), hb, Nat.mod_eq_of_lt hc]
    · rw [if_neg hc]
      have hb : (UInt8.ofNat (128 + n % 128)).toNat = 128 + n % 128 := by rw [UInt8.toNat_ofNat']; omega
      show rdF (f + 2) k a (UInt8.ofNat (128 + n % 128) :: (wbF f (n / 128) ++ l)) = _
      have hpow : 2 ^ (7 * (f + 1) + 1) = 2 ^ (7 * f + 1) * 128 := by rw [show 7 * (f + 1) + 1 = 7 * f + 1 + 7 by omega, Nat.pow_add]
      rw [rdF, if_neg (fun h => by
        rcases h with ⟨h1, h2⟩ | ⟨h1, _⟩
        · have h3 := congrArg UInt8.toNat h1
          rw [hb] at h3
          change 128 + n % 128 = 0 at h3
          omega
        · omega), if_neg (by rw [hb]; omega), ih (k + 1) _ (n / 128) l (by omega) (by rw [hpow] at hn; exact Nat.div_lt_of_lt_mul (by rw [Nat.mul_comm]; exact hn)) (fun _ => by omega), hb]
      have hp2 : 2 ^ (7 * (k + 1)) = 128 * 2 ^ (7 * k) := by rw [show 7 * (k + 1) = 7 + 7 * k by omega, Nat.pow_add]
      have e1 : (128 + n % 128) % 128 = n % 128 := by omega
      rw [e1, hp2]
      have e2 : n * 2 ^ (7 * k) = (n % 128 + n / 128 * 128) * 2 ^ (7 * k) := by rw [Nat.mod_add_div' n 128]
      rw [e2, Nat.add_mul, Nat.mul_assoc (n / 128), Nat.add_assoc]
theorem rd_wb (n : Nat) (hn : n < 2 ^ 64) (l : List UInt8) : rd (wb n ++ l) = some (n, l) := by
  have := rdF_wbF 9 0 0 n l rfl hn (fun h => by omega)
  rw [Nat.mul_zero, Nat.pow_zero, Nat.mul_one, Nat.zero_add] at this
  exact this
theorem rdF_back (f : Nat) : ∀ (k a : Nat) (l : List UInt8) (m : Nat) (l' : List UInt8), f + k = 9 → rdF (f + 1) k a l = some (m, l') → ∃ n, m = a + n * 2 ^ (7 * k) ∧ l = wbF f n ++ l' ∧ (0 < k → 0 < n) := by
  induction f with
  | zero =>
    intro k a l m l' hk h
    have hk9 : k = 9 := by omega
    subst hk9
    cases l with
    | nil => cases h
    | cons b l =>
      rw [rdF] at h
      split at h
      · cases h
      · rename_i hc
        have hb0 : b ≠ 0 := fun e => hc (.inl ⟨e, by omega⟩)
        have hb1 : ¬ 1 < b.toNat := fun e => hc (.inr ⟨rfl, e⟩)
        have hbn : b.toNat ≠ 0 := fun e => hb0 (UInt8.toNat_inj.1 e)
        have hb : b.toNat = 1 := by omega
        have hbe : b = 1 := UInt8.toNat_inj.1 hb
        subst hbe
        rw [if_pos (by decide)] at h
        cases h
        exact ⟨1, rfl, rfl, fun _ => by omega⟩
  | succ f ih =>
    intro k a l m l' hk h
    cases l with
    | nil => cases h
    | cons b l =>
      have hlt := b.toNat_lt
      rw [rdF] at h
      split at h
      · cases h
      · rename_i hc
        split at h
        · rename_i hb
          cases h
          refine ⟨b.toNat, by rw [Nat.mod_eq_of_lt hb], ?_, fun h0 => ?_⟩
          · rw [wbF, if_pos hb]
            show _ = UInt8.ofNat b.toNat :: l'
            rw [UInt8.ofNat_toNat]
          · have : b.toNat ≠ 0 := fun e => hc (.inl ⟨UInt8.toNat_inj.1 e, h0⟩)
            omega
        · rename_i hb
          obtain ⟨n, hm, hl, h0⟩ := ih (k + 1) _ l m l' (by omega) h
          have hn := h0 (by omega)
          refine ⟨b.toNat % 128 + 128 * n, ?_, ?_, fun _ => by omega⟩
          · have hp2 : 2 ^ (7 * (k + 1)) = 128 * 2 ^ (7 * k) := by rw [show 7 * (k + 1) = 7 + 7 * k by omega, Nat.pow_add]
            rw [hm, hp2, Nat.add_mul, Nat.mul_comm 128 n, Nat.mul_assoc, Nat.add_assoc]
          · have e1 : (b.toNat % 128 + 128 * n) % 128 = b.toNat % 128 := by omega
            have e2 : (b.toNat % 128 + 128 * n) / 128 = n := by omega
            rw [wbF, if_neg (by omega), e1, e2, hl]
            have e3 : 128 + b.toNat % 128 = b.toNat := by omega
            rw [e3, UInt8.ofNat_toNat]
            rfl
theorem rd_back {l : List UInt8} {n : Nat} {l' : List UInt8} (h : rd l = some (n, l')) : l = wb n ++ l' := by
  obtain ⟨m, h1, h2, _⟩ := rdF_back 9 0 0 l n l' rfl h
  have : m = n := by rw [h1]; simp
  subst this
  exact h2
theorem uint_put (most n : Int) (h0 : 0 ≤ n) (hm : n ≤ most) (hi : n ≤ 9223372036854775807) (l : List UInt8) : uintS most (some (uintB n ++ l)) = (n, some l) := by
  unfold uintS uintB
  rw [if_neg (by omega)]
  have e : ((n.toNat : Nat) : Int) = n := Int.toNat_of_nonneg h0
  simp only [rd_wb n.toNat (by omega) l]
  rw [if_neg (by omega), e]
theorem uint_back {most : Int} {o : Option (List UInt8)} {l' : List UInt8} (h : (uintS most o).2 = some l') : o = some (uintB (uintS most o).1 ++ l') := by
  cases o with
  | none => cases h
  | some l =>
    cases hr : rd l with
    | none => simp only [uintS, hr] at h; cases h
    | some r =>
      obtain ⟨n, t⟩ := r
      have hb := rd_back hr
      simp only [uintS, hr] at h ⊢
      split at h
      · cases h
      · rename_i hc
        rw [if_neg hc]
        cases h
        show some l = some (uintB (n : Int) ++ l')
        rw [hb]
        unfold uintB
        rw [if_neg (by omega)]
        rfl
theorem uint_none (most : Int) : uintS most none = (0, none) := rfl
theorem uint_bounds (most : Int) (o : Option (List UInt8)) (h : 0 ≤ most) : 0 ≤ (uintS most o).1 ∧ (uintS most o).1 ≤ most ∧ (uintS most o).1 ≤ 9223372036854775807 := by
  unfold uintS
  split
  · simp; exact h
  · split
    · simp; exact h
    · split
      · simp; exact h
      · rename_i hc; simp only; omega
end Pen
end Go.Proofs.Ytfincohdchnniaa
namespace Go.Proofs.Ytfincohdchnniaa
open Go.RowKit
namespace Pen
/-- A reader's cells. -/
def rc (rest : ByteArray) (bad : Bool) (i : Nat) : Value := if i = 0 then .string rest else if i = 1 then .bool bad else .bool true
def RdAt (w : World) (g : Nat) (rest : ByteArray) (bad : Bool) : Prop := w.rowIs g 86 3 (rc rest bad)
theorem grw_trans {a b c : World} {g : Nat} (h1 : a.grownBy b (some g)) (h2 : b.grownBy c (some g)) : a.grownBy c (some g) :=
  ⟨h2.os.trans h1.os, h2.tape.trans h1.tape, h2.output.trans h1.output, Nat.le_trans h1.size h2.size, fun k hk hne => (h2.block k (Nat.lt_of_lt_of_le hk h1.size) hne).trans (h1.block k hk hne)⟩
theorem grw_refl (w : World) (g : Nat) : w.grownBy w (some g) := ⟨rfl, rfl, rfl, Nat.le_refl _, fun _ _ _ => rfl⟩
theorem grw_set (w : World) (g i : Nat) (u : Value) : w.grownBy (w.setCell ⟨g, i, none⟩ u) (some g) :=
  ⟨rfl, rfl, rfl, by simp, fun k _ hne => Below.heap_setCell _ _ _ _ (fun e => hne (by rw [e]))⟩
theorem RdAt.cells {w : World} {g : Nat} {rest : ByteArray} {bad : Bool} (h : RdAt w g rest bad) : w.cell? ⟨g, 0, none⟩ = some (.string rest) ∧ w.cell? ⟨g, 1, none⟩ = some (.bool bad) ∧ w.cell? ⟨g, 2, none⟩ = some (.bool true) :=
  ⟨h.cell (by decide), h.cell (by decide), h.cell (by decide)⟩
theorem RdAt.setBad {w : World} {g : Nat} {rest : ByteArray} {bad : Bool} (h : RdAt w g rest bad) : RdAt (w.setCell ⟨g, 1, none⟩ (.bool true)) g rest true :=
  (World.rowIs.set h 1 _).congr fun i hi => by unfold rc; by_cases e : i = 1 <;> simp [e]
theorem RdAt.setRest {w : World} {g : Nat} {rest : ByteArray} {bad : Bool} (h : RdAt w g rest bad) (r : ByteArray) : RdAt (w.setCell ⟨g, 0, none⟩ (.string r)) g r bad :=
  (World.rowIs.set h 0 _).congr fun i hi => by unfold rc; by_cases e : i = 0 <;> simp [e]
theorem new_any (s : ByteArray) (w : World) :
    Calls Try.prog 28 #[.string s] w fun e w' => e = .returned (.pointer (some ⟨w.heap.size, 0, none⟩)) ∧ RdAt w' w.heap.size s false ∧ Below w.heap.size w w' := by
  go_enter Try.func28, Try.ntmps28
  go_wp2
  go_ret
  refine ⟨rfl, ?_, below_al (Below.refl _ _) _⟩
  refine ⟨_, heap_alloc_new w _, rfl, fun i hi => ?_⟩
  match i, hi with
  | 0, _ => rfl
  | 1, _ => rfl
  | 2, _ => rfl
theorem fails_any (g : Nat) (rest : ByteArray) (bad : Bool) (w : World) (h : RdAt w g rest bad) :
    Calls Try.prog 70 #[.pointer (some ⟨g, 0, none⟩)] w fun e w' => e = .returned (.tuple #[]) ∧ RdAt w' g rest true ∧ w.grownBy w' (some g) := by
  obtain ⟨c0, c1, c2⟩ := h.cells
  have f1 := World.rowIs.frozen h 1
  have HS := Lib.hid h.setBad
  clear h
  go_enter Try.func70, Try.ntmps70
  go_wp2
  go_end0
  exact ⟨rfl, HS.out, grw_set _ _ _ _⟩
theorem bad_any (g : Nat) (rest : ByteArray) (bad : Bool) (w : World) (h : RdAt w g rest bad) :
    Calls Try.prog 52 #[.pointer (some ⟨g, 0, none⟩)] w fun e w' => e = .returned (.bool bad) ∧ w = w' := by
  obtain ⟨c0, c1, c2⟩ := h.cells
  clear h
  cases bad with
  | true =>
    go_enter Try.func52, Try.ntmps52
    go_wp2
    go_ret
    exact ⟨rfl, rfl⟩
  | false =>
    go_enter Try.func52, Try.ntmps52
    go_wp2
    go_ret
    exact ⟨rfl, rfl⟩
theorem and127b (b : UInt8) : bits .and .u8 (b.toNat : Int) 127 = ((b.toNat % 128 : Nat) : Int) := by
  have key : ∀ m : Fin 256, bits .and .u8 ((m.val : Nat) : Int) 127 = ((m.val % 128 : Nat) : Int) := by decide +kernel
  exact key ⟨b.toNat, b.toNat_lt⟩
theorem or_add (n m t : Nat) (hn : n < 2 ^ t) (h : n + m * 2 ^ t < 2 ^ 64) : bits .or .u64 (n : Int) ((m * 2 ^ t : Nat) : Int) = ((n + m * 2 ^ t : Nat) : Int) := by
  have h1 : n < 2 ^ 64 := by omega
  have h2 : m * 2 ^ t < 2 ^ 64 := by omega
  show IntKind.u64.wrap ((BitVec.ofInt 64 (n : Int) ||| BitVec.ofInt 64 ((m * 2 ^ t : Nat) : Int)).toNat : Int) = _
  rw [BitVec.toNat_or, show (BitVec.ofInt 64 (n : Int)).toNat = n by rw [BitVec.ofInt_natCast, BitVec.toNat_ofNat]; exact Nat.mod_eq_of_lt h1,
    show (BitVec.ofInt 64 ((m * 2 ^ t : Nat) : Int)).toNat = m * 2 ^ t by rw [BitVec.ofInt_natCast, BitVec.toNat_ofNat]; exact Nat.mod_eq_of_lt h2]
  have e : n ||| m * 2 ^ t = n + m * 2 ^ t := by
    rw [Nat.or_comm, Nat.mul_comm, ← Nat.two_pow_add_eq_or_of_lt hn m, Nat.add_comm]
  rw [e, IntKind.wrap_u64]
  omega
/-- What a word leaves. -/
def wordS (l : List UInt8) : Int × Bool × List UInt8 × Bool := match rd l with
  | none => (0, false, l, true)
  | some (n, l') => ((n : Int), true, l', false)
theorem rdF_step (f k n : Nat) (b : UInt8) (l : List UInt8) : rdF (f + 1) k n (b :: l) = if (b = 0 ∧ 0 < k) ∨ (k = 9 ∧ 1 < b.toNat) then none else if b.toNat < 128 then some (n + b.toNat % 128 * 2 ^ (7 * k), l) else rdF f (k + 1) (n + b.toNat % 128 * 2 ^ (7 * k)) l := rfl
theorem drop_at (s : ByteArray) (k : Nat) (h : k < s.size) : s.data.toList.drop k = s[k] :: s.data.toList.drop (k + 1) := by
  rw [List.drop_eq_getElem_cons (by simpa using h)]; rfl
theorem extract_bs (s : ByteArray) (k : Nat) : s.extract k s.size = bs (s.data.toList.drop k) := by
  apply ByteArray.ext
  apply Array.toList_inj.1
  simp [bs, ByteArray.data_extract]
  rw [List.take_of_length_le (by simp)]
theorem bs_self (s : ByteArray) : bs s.data.toList = s := by
  apply ByteArray.ext; simp [bs]
theorem acc_bound {n b k : Nat} (hn : n < 2 ^ (7 * k)) (hb : b ≤ 127) (hk : k ≤ 9) (h9 : k = 9 → b ≤ 1) : n + b * 2 ^ (7 * k) < 2 ^ 64 ∧ n + b * 2 ^ (7 * k) < 2 ^ (7 * (k + 1)) := by
  have h2 : n + b * 2 ^ (7 * k) < 2 ^ (7 * (k + 1)) := by
    rw [show 7 * (k + 1) = 7 * k + 7 by omega, Nat.pow_add]
    have : b * 2 ^ (7 * k) ≤ 127 * 2 ^ (7 * k) := Nat.mul_le_mul_right _ hb
    omega
  refine ⟨?_, h2⟩
  by_cases e : k = 9
  · have hb1 := h9 e
    subst e
    have : b * 2 ^ (7 * 9) ≤ 1 * 2 ^ (7 * 9) := Nat.mul_le_mul_right _ hb1
    omega
  · have h3 : 2 ^ (7 * (k + 1)) ≤ 2 ^ 63 := Nat.pow_le_pow_right (by omega) (by omega)
    omega
set_option maxRecDepth 100000 in
set_option maxHeartbeats 4000000 in
theorem word_good (g : Nat) (s : ByteArray) (hs : s.size ≤ 1000000000) (w : World) (h : RdAt w g s false) :
    Calls Try.prog 69 #[.pointer (some ⟨g, 0, none⟩)] w fun e w' => e = .returned (.tuple #[.int .u64 (wordS s.data.toList).1, .bool (wordS s.data.toList).2.1]) ∧ Hid (RdAt w' g (bs (wordS s.data.toList).2.2.1) (wordS s.data.toList).2.2.2) ∧ Hid (w.grownBy w' (some g)) := by
  have H := Lib.hid h
  have hs1 : (s.size : Int) ≤ 1000000000 := by omega
  obtain ⟨c0, c1, c2⟩ := h.cells
  have f0 := World.rowIs.frozen h 0
  have CB := Lib.hid (bad_any g s false w h)
  have CF := Lib.hid (fails_any g s false w h)
  have HSR := Lib.hid (fun r => h.setRest r)
  obtain ⟨R, hR⟩ : ∃ R, Hid (wordS s.data.toList = R) := ⟨_, rfl⟩
  rw [hR.out]
  clear h
  obtain ⟨K, hK⟩ : ∃ K : Nat, Hid (min 10 s.size = K) := ⟨_, rfl⟩
  have hK1 : K ≤ 10 := by have := hK.out; omega
  have hK2 : (K : Int) < 11 := by omega
  have hmin : (if (s.size : Int) < 10 then (s.size : Int) else 10) = (K : Int) := by have := hK.out; split <;> omega
  go_enter Try.func69, Try.ntmps69
  go_wp2_with (go_at_call 52; (with_reducible refine CB.out.mono ?_); rintro e w1 ⟨rfl, rfl⟩)
  clear hmin
  go_loop [4, 16] (fun v4 v16 => ∃ (k n : Nat), k ≤ K ∧ v16 = .int .i64 (k : Int) ∧ v4 = .int .u64 (n : Int) ∧ Hid (n < 2 ^ (7 * k) ∧ rdF (10 - k) k n (s.data.toList.drop k) = rd s.data.toList)) (fun _ v16 => K - (intOf v16).toNat)
  case atStart => exact ⟨0, 0, by omega, rfl, rfl, by decide, by rw [List.drop_zero]; rfl⟩
  case round =>
    obtain ⟨k, n, hk, rfl, rfl, HN⟩ := hrel
    by_cases hlt : k < K
    · have hks : k < s.size := by have := hK.out; omega
      have hk10 : k < 10 := by omega
      have hlt1 : (k : Int) < (K : Int) := by omega
      have hks1 : (k : Int) < (s.size : Int) := by omega
      have hk0 : (0 : Int) ≤ (k : Int) := by omega
      have HST : Hid (rd s.data.toList = if (s[k] = 0 ∧ 0 < k) ∨ (k = 9 ∧ 1 < s[k].toNat) then none else if s[k].toNat < 128 then some (n + s[k].toNat % 128 * 2 ^ (7 * k), s.data.toList.drop (k + 1)) else rdF (9 - k) (k + 1) (n + s[k].toNat % 128 * 2 ^ (7 * k)) (s.data.toList.drop (k + 1))) := by
        have := HN.out.2
        rw [drop_at s k hks, show 10 - k = (9 - k) + 1 by omega, rdF_step] at this
        exact this.symm
      have hbn := (s[k]).toNat_lt
      have HZ0 : Hid (s[k] = 0 ↔ s[k].toNat = 0) := ⟨fun h => by rw [h]; rfl, fun h => by
        apply UInt8.toNat_inj.1; rw [h]; rfl⟩
      have hA := and127b s[k]
      obtain ⟨B, hB⟩ : ∃ B : Nat, s[k].toNat = B := ⟨_, rfl⟩
      rw [hB] at HST HZ0 hbn hA
      obtain ⟨A, hAe⟩ : ∃ A : Int, Hid (((B % 128 : Nat) : Int) = A) := ⟨_, rfl⟩
      obtain ⟨t, ht⟩ : ∃ t : Nat, Hid (7 * k = t) := ⟨_, rfl⟩
      have ht2 : 7 * (k : Int) = (t : Int) := by have := ht.out; omega
      have ht3 : t ≤ 63 := by have := ht.out; omega
      have ht4 : (t : Int) ≤ 64 := by omega
      obtain ⟨Z, hZ⟩ : ∃ Z : Int, (B : Int) = Z := ⟨_, rfl⟩
      have HBZ : Hid ((B : Int) = Z ∧ B < 256) := ⟨hZ, by omega⟩
      rw [hAe.out, hZ] at hA
      have a0 : 0 ≤ A := by have := hAe.out; omega
      have a1 : A ≤ 127 := by have := hAe.out; omega
      by_cases hfail : (B = 0 ∧ 0 < k) ∨ (k = 9 ∧ 1 < B)
      · have HFR : Hid (R = (0, false, s.data.toList, true)) := by
          show R = _
          rw [← hR.out]
          unfold wordS
          rw [HST.out, if_pos (by rcases hfail with h | h; exact .inl ⟨HZ0.out.2 h.1, h.2⟩; exact .inr h)]
        by_cases hz : B = 0 ∧ 0 < k
        · have z0 : Z = 0 := by have := HBZ.out.1; omega
          have dk0 : (0 : Int) < (k : Int) := by omega
          have dk0' : 0 < k := hz.2
          subst z0
          clear hfail hz hbn HST
          go_wp2_with (go_at_call 70; (with_reducible refine CF.out.mono ?_); rintro e w2 ⟨rfl, hrd, hgr⟩; have HRD := Lib.hid hrd; have HGR := Lib.hid hgr; clear hrd hgr)
          go_ret2
          have e := HFR.out
          rw [e]
          exact ⟨rfl, by show RdAt _ _ _ _; rw [bs_self]; exact HRD.out, HGR.out⟩
        · have hk9 : k = 9 ∧ 1 < B := by rcases hfail with h | h; exact absurd h hz; exact h
          have hk9' := hk9.1
          have dz0 : (Z == 0) = false := beq_eq_false_iff_ne.2 (by have := HBZ.out.1; omega)
          have dz1 : decide (1 < Z) = true := decide_eq_true (by have := HBZ.out.1; omega)
          have HK9 := Lib.hid hk9'
          have dk9 : ((k : Int) == 9) = true := by rw [hk9']; rfl
          clear hfail hz hbn HST hk9 hk9' ht2 ht3 ht4
          by_cases h128 : Z < 128
          · have dlast : decide (Z < 128) = true := decide_eq_true h128
            clear h128
            go_wp2_with (go_at_call 70; (with_reducible refine CF.out.mono ?_); rintro e w2 ⟨rfl, hrd, hgr⟩; have HRD := Lib.hid hrd; have HGR := Lib.hid hgr; clear hrd hgr)
            go_ret2
            have e := HFR.out
            rw [e]
            exact ⟨rfl, by show RdAt _ _ _ _; rw [bs_self]; exact HRD.out, HGR.out⟩
          · have dlast : decide (Z < 128) = false := decide_eq_false h128
            clear h128
            go_wp2_with (go_at_call 70; (with_reducible refine CF.out.mono ?_); rintro e w2 ⟨rfl, hrd, hgr⟩; have HRD := Lib.hid hrd; have HGR := Lib.hid hgr; clear hrd hgr)
            go_ret2
            have e := HFR.out
            rw [e]
            exact ⟨rfl, by show RdAt _ _ _ _; rw [bs_self]; exact HRD.out, HGR.out⟩
      · have hbound : n + B % 128 * 2 ^ (7 * k) < 2 ^ 64 ∧ n + B % 128 * 2 ^ (7 * k) < 2 ^ (7 * (k + 1)) := acc_bound HN.out.1 (by omega) (by omega) (fun e => by
          have : ¬ 1 < B := fun h => hfail (.inr ⟨e, h⟩)
          omega)
        have HBD := Lib.hid hbound.2
        have hor := or_add n (B % 128) (7 * k) HN.out.1 hbound.1
        have hwr : IntKind.u64.wrap (A * 2 ^ t) = ((B % 128 * 2 ^ (7 * k) : Nat) : Int) := by
          rw [IntKind.wrap_u64, ← hAe.out, ← ht.out, show (((B % 128 : Nat) : Int) * 2 ^ (7 * k)) = ((B % 128 * 2 ^ (7 * k) : Nat) : Int) by rw [Int.natCast_mul, Int.natCast_pow]; rfl]
          have := hbound.1
          omega
        obtain ⟨S, hS⟩ : ∃ S : Int, Hid (((B % 128 * 2 ^ (7 * k) : Nat) : Int) = S) := ⟨_, rfl⟩
        obtain ⟨N2, hN2⟩ : ∃ N2 : Nat, Hid (n + B % 128 * 2 ^ (7 * k) = N2) := ⟨_, rfl⟩
        rw [hS.out, hN2.out] at hor
        rw [hS.out] at hwr
        rw [hN2.out] at HBD HST
        have hN63 : (N2 : Int) < 18446744073709551616 := by have := hN2.out; have := hbound.1; omega
        replace hN63 := Lib.hid hN63
        clear hbound
        by_cases h128 : B < 128
        · have HRR : Hid (R = ((N2 : Int), true, s.data.toList.drop (k + 1), false)) := by
            show R = _
            rw [← hR.out]
            unfold wordS
            rw [HST.out, if_neg (fun h => hfail (by rcases h with h | h; exact .inl ⟨HZ0.out.1 h.1, h.2⟩; exact .inr h)), if_pos h128]
          have dlast : decide (Z < 128) = true := decide_eq_true (by have := HBZ.out.1; omega)
          have hex := Lib.hid (extract_bs s (k + 1))
          by_cases hz : B = 0
          · have z0 : Z = 0 := by have := HBZ.out.1; omega
            have hk00 : k = 0 := by
              by_cases e : k = 0
              · exact e
              · exact absurd (.inl ⟨hz, by omega⟩) hfail
            subst hk00
            have hSA : S = A := by rw [← hS.out, ← hAe.out]; simp
            rw [hSA] at hor
            subst z0
            clear hfail hz hbn HST h128 hSA
            go_wp2
            go_ret2
            have e := HRR.out
            rw [e]
            exact ⟨rfl, by show RdAt _ _ _ _; rw [← hex.out]; exact HSR.out _, grw_set _ _ _ _⟩
          · have dz0 : (Z == 0) = false := beq_eq_false_iff_ne.2 (by have := HBZ.out.1; omega)
            by_cases hk9 : k = 9
            · have dz1 : decide (1 < Z) = false := decide_eq_false (fun h => hfail (.inr ⟨hk9, by have := HBZ.out.1; omega⟩))
              have dk9 : ((k : Int) == 9) = true := by rw [hk9]; rfl
              replace hk9 := Lib.hid hk9
              clear hfail hz hbn HST h128
              go_wp2
              go_ret2
              have e := HRR.out
              rw [e]
              exact ⟨rfl, by show RdAt _ _ _ _; rw [← hex.out]; exact HSR.out _, grw_set _ _ _ _⟩
            · have dk9 : ((k : Int) == 9) = false := beq_eq_false_iff_ne.2 (by omega)
              clear hfail hz hbn HST h128 hk9
              go_wp2
              go_ret2
              have e := HRR.out
              rw [e]
              exact ⟨rfl, by show RdAt _ _ _ _; rw [← hex.out]; exact HSR.out _, grw_set _ _ _ _⟩
        · have dlast : decide (Z < 128) = false := decide_eq_false (by have := HBZ.out.1; omega)
          have k9 : ¬ k = 9 := fun e => hfail (.inr ⟨e, by omega⟩)
          have dk9 : ((k : Int) == 9) = false := beq_eq_false_iff_ne.2 (by omega)
          have HNX : Hid (rdF (10 - (k + 1)) (k + 1) N2 (s.data.toList.drop (k + 1)) = rd s.data.toList) := by
            show _ = _
            rw [HST.out, if_neg (fun h => hfail (by rcases h with h | h; exact .inl ⟨HZ0.out.1 h.1, h.2⟩; exact .inr h)), if_neg h128]
            rw [show 10 - (k + 1) = 9 - k by omega]
          clear hfail h128 hbn HST
          go_wp2
          go_round
          case rel => exact ⟨k + 1, N2, by omega, by go_num, rfl, HBD, HNX⟩
          case measure => simp [intOf]; omega
    · have hkK : k = K := by omega
      have hge : ¬ (k : Int) < (K : Int) := by omega
      have HFR : Hid (R = (0, false, s.data.toList, true)) := by
        show R = _
        rw [← hR.out]
        unfold wordS
        have h1 := HN.out.2
        have h2 : rdF (10 - k) k n (s.data.toList.drop k) = none := by
          by_cases e : k = 10
          · subst e
            cases s.data.toList.drop 10 <;> rfl
          · have : s.data.toList.drop k = [] := List.drop_eq_nil_of_le (by have := hK.out; simp; omega)
            rw [this]
            cases (10 - k) <;> rfl
        rw [← h1, h2]
      clear hlt hkK
      go_wp2_with (go_at_call 70; (with_reducible refine CF.out.mono ?_); rintro e w2 ⟨rfl, hrd, hgr⟩; have HRD := Lib.hid hrd; have HGR := Lib.hid hgr; clear hrd hgr)
      go_ret2
      have e := HFR.out
      rw [e]
      exact ⟨rfl, by show RdAt _ _ _ _; rw [bs_self]; exact HRD.out, HGR.out⟩
end Pen
end Go.Proofs.Ytfincohdchnniaa
namespace Go.Proofs.Ytfincohdchnniaa
open Go.RowKit
namespace Pen
/-- What a reader has left; none: it is bad. -/
def st (rest : ByteArray) (bad : Bool) : Option (List UInt8) := if bad then none else some rest.data.toList
theorem word_bad (g : Nat) (s : ByteArray) (w : World) (h : RdAt w g s true) :
    Calls Try.prog 69 #[.pointer (some ⟨g, 0, none⟩)] w fun e w' => e = .returned (.tuple #[.int .u64 0, .bool false]) ∧ w = w' := by
  have CB := Lib.hid (bad_any g s true w h)
  clear h
  go_enter Try.func69, Try.ntmps69
  go_wp2_with (go_at_call 52; (with_reducible refine CB.out.mono ?_); rintro e w1 ⟨rfl, rfl⟩)
  go_ret2
  exact ⟨rfl, rfl⟩
/-- What a reader's step leaves. -/
def RdOut (g : Nat) (rest : ByteArray) (w : World) (r : Int × Option (List UInt8)) (e : Ending) (w' : World) : Prop :=
  ∃ (rest' : ByteArray) (bad' : Bool), e = .returned (.int .i64 r.1) ∧ Hid (st rest' bad' = r.2 ∧ rest'.size ≤ rest.size) ∧ Hid (RdAt w' g rest' bad') ∧ Hid (w.grownBy w' (some g))
theorem uintS_le (most : Int) (o : Option (List UInt8)) (h : most ≤ 9223372036854775807) : 0 ≤ (uintS most o).1 ∧ (uintS most o).1 ≤ 9223372036854775807 := by
  unfold uintS
  split
  · simp
  · split
    · simp
    · split
      · simp
      · rename_i hc; simp only; omega
set_option maxRecDepth 100000 in
set_option maxHeartbeats 2000000 in
theorem rUint_any (g : Nat) (rest : ByteArray) (bad : Bool) (most : Int) (hs : rest.size ≤ 1000000000) (w : World) (h : RdAt w g rest bad) :
    Calls Try.prog 51 #[.pointer (some ⟨g, 0, none⟩), .int .i64 most] w (RdOut g rest w (uintS most (st rest bad))) := by
  cases bad with
  | true =>
    have CW := Lib.hid (word_bad g rest w h)
    have CF := Lib.hid (fails_any g rest true w h)
    clear h
    go_enter Try.func51, Try.ntmps51
    go_wp2_with (first
      | (go_at_call 69; (with_reducible refine CW.out.mono ?_); rintro e w1 ⟨rfl, rfl⟩)
      | (go_at_call 70; (with_reducible refine CF.out.mono ?_); rintro e w2 ⟨rfl, hrd, hgr⟩; have HRD := Lib.hid hrd; have HGR := Lib.hid hgr; clear hrd hgr))
    go_ret
    exact ⟨rest, true, rfl, ⟨rfl, Nat.le_refl _⟩, HRD, HGR⟩
  | false =>
    have CW := Lib.hid (word_good g rest hs w h)
    have HST : Hid (st rest false = some rest.data.toList) := rfl
    rw [HST.out]
    cases hrd : rd rest.data.toList with
    | none =>
      have hw : wordS rest.data.toList = (0, false, rest.data.toList, true) := by unfold wordS; rw [hrd]
      have HU : Hid (uintS most (some rest.data.toList) = (0, none)) := by show _ = _; unfold uintS; simp only [hrd]
      rw [hw] at CW
      rw [HU.out]
      have CF : Hid (∀ w1 : World, RdAt w1 g (bs rest.data.toList) true → _) := fun w1 h1 => fails_any g (bs rest.data.toList) true w1 h1
      clear hrd hw h
      go_enter Try.func51, Try.ntmps51
      go_wp2_with (first
        | (go_at_call 69; (with_reducible refine CW.out.mono ?_); rintro e w1 ⟨rfl, H1, G1⟩)
        | (go_at_call 70; (with_reducible refine (CF.out _ H1.out).mono ?_); rintro e w2 ⟨rfl, hrd, hgr⟩; have HRD := Lib.hid hrd; have HGR := Lib.hid (grw_trans G1.out hgr); clear hrd hgr))
      go_ret
      exact ⟨bs rest.data.toList, true, rfl, ⟨rfl, by rw [bs_self]; exact Nat.le_refl _⟩, HRD, HGR⟩
    | some r =>
      obtain ⟨n, l'⟩ := r
      have hsm := rd_small hrd
      have hw : wordS rest.data.toList = ((n : Int), true, l', false) := by unfold wordS; rw [hrd]
      rw [hw] at CW
      have HLN : Hid ((bs l').size ≤ rest.size) := by show _ ≤ _; rw [bs_size]; have := hsm.2; simp at this; omega
      have CF : Hid (∀ w1 : World, RdAt w1 g (bs l') false → _) := fun w1 h1 => fails_any g (bs l') false w1 h1
      obtain ⟨NI, hNI⟩ : ∃ NI : Int, Hid ((n : Int) = NI) := ⟨_, rfl⟩
      rw [hNI.out] at CW
      have n0 : (0 : Int) ≤ NI := by have := hNI.out; omega
      by_cases hc1 : (9223372036854775807 : Int) < NI
      · have HU : Hid (uintS most (some rest.data.toList) = (0, none)) := by
          show _ = _; unfold uintS; simp only [hrd]; rw [if_pos (.inl (by rw [hNI.out]; exact hc1))]
        rw [HU.out]
        have d1 : decide ((9223372036854775807 : Int) < NI) = true := decide_eq_true hc1
        clear hrd hw h hsm hc1 n0
        go_enter Try.func51, Try.ntmps51
        go_wp2_with (first
          | (go_at_call 69; (with_reducible refine CW.out.mono ?_); rintro e w1 ⟨rfl, H1, G1⟩)
          | (go_at_call 70; (with_reducible refine (CF.out _ H1.out).mono ?_); rintro e w2 ⟨rfl, hrd, hgr⟩; have HRD := Lib.hid hrd; have HGR := Lib.hid (grw_trans G1.out hgr); clear hrd hgr))
        go_ret
        exact ⟨bs l', true, rfl, ⟨rfl, HLN.out⟩, HRD, HGR⟩
      · have d1 : decide ((9223372036854775807 : Int) < NI) = false := decide_eq_false hc1
        have e1 : wrap64 NI = NI := by unfold wrap64; omega
        have e2 : IntKind.i64.wrap NI = NI := by rw [IntKind.wrap_i64]; omega
        by_cases hc2 : most < NI
        · have HU : Hid (uintS most (some rest.data.toList) = (0, none)) := by
            show _ = _; unfold uintS; simp only [hrd]; rw [if_pos (.inr (by rw [hNI.out]; exact hc2))]
          rw [HU.out]
          have d2 : decide (most < NI) = true := decide_eq_true hc2
          clear hrd hw h hsm hc1 hc2 n0
          go_enter Try.func51, Try.ntmps51
          go_wp2_with (first
            | (go_at_call 69; (with_reducible refine CW.out.mono ?_); rintro e w1 ⟨rfl, H1, G1⟩)
            | (go_at_call 70; (with_reducible refine (CF.out _ H1.out).mono ?_); rintro e w2 ⟨rfl, hrd, hgr⟩; have HRD := Lib.hid hrd; have HGR := Lib.hid (grw_trans G1.out hgr); clear hrd hgr))
          go_ret
          exact ⟨bs l', true, rfl, ⟨rfl, HLN.out⟩, HRD, HGR⟩
        · have HU : Hid (uintS most (some rest.data.toList) = (NI, some l')) := by
            show _ = _; unfold uintS; simp only [hrd]; rw [if_neg (fun hh => by rw [hNI.out] at hh; rcases hh with hh | hh; exact hc1 hh; exact hc2 hh), hNI.out]
          rw [HU.out]
          have d2 : decide (most < NI) = false := decide_eq_false hc2
          clear hrd hw h hsm hc1 hc2 n0
          go_enter Try.func51, Try.ntmps51
          go_wp2_with (first
            | (go_at_call 69; (with_reducible refine CW.out.mono ?_); rintro e w1 ⟨rfl, H1, G1⟩))
          go_ret
          exact ⟨bs l', false, rfl, ⟨rfl, HLN.out⟩, H1, G1⟩
set_option maxRecDepth 100000 in
theorem done_any (g : Nat) (rest : ByteArray) (bad : Bool) (w : World) (h : RdAt w g rest bad) :
    Calls Try.prog 34 #[.pointer (some ⟨g, 0, none⟩)] w fun e w' => e = .returned (.bool (doneS (st rest bad))) ∧ w = w' := by
  have CB := Lib.hid (bad_any g rest bad w h)
  obtain ⟨c0, _, _⟩ := h.cells
  cases bad with
  | true =>
    have HU : Hid (doneS (st rest true) = false) := rfl
    rw [HU.out]
    clear h
    go_enter Try.func34, Try.ntmps34
    go_wp2_with (go_at_call 52; (with_reducible refine CB.out.mono ?_); rintro e w1 ⟨rfl, rfl⟩)
    go_ret
    exact ⟨rfl, rfl⟩
  | false =>
    have hl : rest.toList = rest.data.toList := ByteArray.toList_eq rest
    cases he : rest.data.toList.isEmpty with
    | true =>
      have HU : Hid (doneS (st rest false) = true) := he
      rw [HU.out]
      have he2 : rest.toList.isEmpty = true := by rw [hl]; exact he
      clear h he hl
      go_enter Try.func34, Try.ntmps34
      go_wp2_with (go_at_call 52; (with_reducible refine CB.out.mono ?_); rintro e w1 ⟨rfl, rfl⟩)
      go_ret
      exact ⟨rfl, rfl⟩
    | false =>
      have HU : Hid (doneS (st rest false) = false) := he
      rw [HU.out]
      have he2 : rest.toList.isEmpty = false := by rw [hl]; exact he
      clear h he hl
      go_enter Try.func34, Try.ntmps34
      go_wp2_with (go_at_call 52; (with_reducible refine CB.out.mono ?_); rintro e w1 ⟨rfl, rfl⟩)
      go_ret
      exact ⟨rfl, rfl⟩
end Pen
end Go.Proofs.Ytfincohdchnniaa
namespace Go.Proofs.Ytfincohdchnniaa
open Go.RowKit
namespace Pen
/-- The reference's reader's cells. -/
def rrc (S : ByteArray) (p : Nat) (bad : Bool) (i : Nat) : Value := if i = 0 then .string S else if i = 1 then .int .i64 (p : Int) else .bool bad
def RrAt (w : World) (g : Nat) (S : ByteArray) (p : Nat) (bad : Bool) : Prop := w.rowIs g 70 3 (rrc S p bad)
/-- What is left; none: it is bad. -/
def st2 (S : ByteArray) (p : Nat) (bad : Bool) : Option (List UInt8) := if bad then none else some (S.data.toList.drop p)
namespace RrAt
variable {w : World} {g p : Nat} {S : ByteArray} {bad : Bool}
theorem cells (h : RrAt w g S p bad) : w.cell? ⟨g, 0, none⟩ = some (.string S) ∧ w.cell? ⟨g, 1, none⟩ = some (.int .i64 (p : Int)) ∧ w.cell? ⟨g, 2, none⟩ = some (.bool bad) :=
  ⟨h.cell (by decide), h.cell (by decide), h.cell (by decide)⟩
theorem setBad (h : RrAt w g S p bad) : RrAt (w.setCell ⟨g, 2, none⟩ (.bool true)) g S p true :=
  (World.rowIs.set h 2 _).congr fun i hi => by
    unfold rrc
    by_cases e : i = 2
    · rw [if_pos e, if_neg (by omega), if_neg (by omega)]
    · rw [if_neg e]
      by_cases e0 : i = 0
      · rw [if_pos e0, if_pos e0]
      · rw [if_neg e0, if_neg e0, if_pos (by omega), if_pos (by omega)]
theorem setAt (h : RrAt w g S p bad) (q : Nat) : RrAt (w.setCell ⟨g, 1, none⟩ (.int .i64 (q : Int))) g S q bad :=
  (World.rowIs.set h 1 _).congr fun i hi => by
    unfold rrc
    by_cases e : i = 1
    · rw [if_pos e, if_neg (by omega), if_pos e]
    · rw [if_neg e]
      by_cases e0 : i = 0
      · rw [if_pos e0, if_pos e0]
      · rw [if_neg e0, if_neg e0, if_neg e, if_neg e]
theorem drewN (h : RrAt w g S p bad) (q : Nat) : RrAt (w.drewN q) g S p bad := h
theorem drew (h : RrAt w g S p bad) : RrAt w.drew g S p bad := h
end RrAt
theorem grw_dN {a b : World} {g : Nat} (h : a.grownBy b (some g)) (n : Nat) : a.grownBy (b.drewN n) (some g) := ⟨h.os, h.tape, h.output, h.size, h.block⟩
theorem grw_d {a b : World} {g : Nat} (h : a.grownBy b (some g)) : a.grownBy b.drew (some g) := ⟨h.os, h.tape, h.output, h.size, h.block⟩
theorem rfails_any (g : Nat) (S : ByteArray) (p : Nat) (bad : Bool) (w : World) (h : RrAt w g S p bad) :
    Calls Try.prog 55 #[.pointer (some ⟨g, 0, none⟩)] w fun e w' => e = .returned (.int .u64 0) ∧ RrAt w' g S p true ∧ w.grownBy w' (some g) := by
  obtain ⟨c0, c1, c2⟩ := h.cells
  have f1 := World.rowIs.frozen h 2
  have HS := Lib.hid h.setBad
  clear h
  go_enter Try.func55, Try.ntmps55
  go_wp2
  go_ret
  exact ⟨rfl, HS.out, grw_set _ _ _ _⟩
/-- What the reference's word leaves. -/
def RrOut (g : Nat) (S : ByteArray) (w : World) (k : IntKind) (r : Int × Option (List UInt8)) (e : Ending) (w' : World) : Prop :=
  ∃ (p' : Nat) (bad' : Bool), e = .returned (.int k r.1) ∧ Hid (st2 S p' bad' = r.2 ∧ p' ≤ S.size) ∧ Hid (RrAt w' g S p' bad') ∧ Hid (w.grownBy w' (some g))
def rdO (o : Option (List UInt8)) : Int × Option (List UInt8) := match o with
  | none => (0, none)
  | some l => match rd l with
    | none => (0, none)
    | some (n, l') => ((n : Int), some l')
set_option maxRecDepth 100000 in
theorem rword_bad (g : Nat) (S : ByteArray) (p : Nat) (hp : p ≤ S.size) (w : World) (h : RrAt w g S p true) :
    Calls Try.prog 54 #[.pointer (some ⟨g, 0, none⟩)] w (RrOut g S w .u64 (0, none)) := by
  have CF : Hid (∀ w1 : World, RrAt w1 g S p true → _) := fun w1 h1 => rfails_any g S p true w1 h1
  have HQ := h
  obtain ⟨c0, c1, c2⟩ := h.cells
  have HP := Lib.hid hp
  clear h hp
  go_enter Try.func54, Try.ntmps54
  go_wp2
  go_loopg [3, 4] 1 (fun gk v3 v4 wr => v3 = .int .u64 0 ∧ v4 = .int .i64 0 ∧ wr = w)
  case atStart => exact ⟨rfl, rfl, rfl⟩
  case round =>
    obtain ⟨rfl, rfl, rfl⟩ := hrel
    go_wp2
    go_quiet (fail)
    go_wp2_with (go_at_call 55; (with_reducible refine (CF.out _ ?_).mono ?_); (first | exact HQ | exact HQ.drewN _ | exact (HQ.drewN _).drewN _); rintro e w2 ⟨rfl, hrd, hgr⟩; have HRD := Lib.hid hrd; have HGR := Lib.hid hgr; clear hrd hgr)
    go_ret
    exact ⟨p, true, rfl, ⟨rfl, HP.out⟩, HRD, grw_trans (grw_dN (grw_refl _ _) _) HGR.out⟩
set_option maxRecDepth 100000 in
set_option maxHeartbeats 4000000 in
theorem rword_good (g : Nat) (S : ByteArray) (p : Nat) (hp : p ≤ S.size) (hs : S.size ≤ 1000000000) (w : World) (h : RrAt w g S p false) :
    Calls Try.prog 54 #[.pointer (some ⟨g, 0, none⟩)] w (RrOut g S w .u64 (rdO (some (S.data.toList.drop p)))) := by
  have CF : Hid (∀ w1 : World, RrAt w1 g S p false → _) := fun w1 h1 => rfails_any g S p false w1 h1
  have HH := Lib.hid h
  have HP : Hid (p ≤ S.size ∧ S.size ≤ 1000000000) := ⟨hp, hs⟩
  have hp1 : (p : Int) ≤ 1000000000 := by omega
  have hs1 : (S.size : Int) ≤ 1000000000 := by omega
  obtain ⟨R, hR⟩ : ∃ R, Hid (rdO (some (S.data.toList.drop p)) = R) := ⟨_, rfl⟩
  rw [hR.out]
  clear h hp hs
  go_enter Try.func54, Try.ntmps54
  go_wp2
  go_loopw [3, 4] (fun v3 v4 wr => ∃ (k n : Nat), k ≤ 10 ∧ v4 = .int .i64 (k : Int) ∧ v3 = .int .u64 (n : Int) ∧ Hid (n < 2 ^ (7 * k) ∧ rdF (10 - k) k n (S.data.toList.drop (p + k)) = rd (S.data.toList.drop p)) ∧ Hid (RrAt wr g S p false) ∧ Hid (w.grownBy wr (some g))) (fun _ v4 _ => 10 - (intOf v4).toNat)
  case atStart => exact ⟨0, 0, by omega, rfl, rfl, ⟨by decide, rfl⟩, HH, grw_refl _ _⟩
  case round =>
    obtain ⟨k, n, hk, rfl, rfl, HN, HQh, HGr⟩ := hrel
    have HQ := HQh.out
    obtain ⟨c0, c1, c2⟩ := HQ.cells
    have f1 := World.rowIs.frozen HQ 1
    replace HQ := HQ
    by_cases hlt : k < 10
    · have hlt1 : (k : Int) < 10 := by omega
      have hk0 : (0 : Int) ≤ (k : Int) := by omega
      obtain ⟨j, hj⟩ : ∃ j : Nat, Hid (p + k = j) := ⟨_, rfl⟩
      have hj1 : (p : Int) + (k : Int) = (j : Int) := by have := hj.out; omega
      have hj2 : IntKind.i64.wrap ((p : Int) + (k : Int)) = (j : Int) := by rw [IntKind.wrap_i64]; have := hj.out; omega
      have hj3 : IntKind.i64.wrap (j : Int) = (j : Int) := by rw [IntKind.wrap_i64]; have := hj.out; omega
      by_cases hjs : j < S.size
      · have hjs1 : (j : Int) < (S.size : Int) := by omega
        have hj0 : (0 : Int) ≤ (j : Int) := by omega
        have dge : decide ((S.size : Int) ≤ (j : Int)) = false := decide_eq_false (by omega)
        have dge2 : decide (S.size ≤ j) = false := decide_eq_false (by omega)
        have HST : Hid (rd (S.data.toList.drop p) = if (S[j] = 0 ∧ 0 < k) ∨ (k = 9 ∧ 1 < S[j].toNat) then none else if S[j].toNat < 128 then some (n + S[j].toNat % 128 * 2 ^ (7 * k), S.data.toList.drop (j + 1)) else rdF (9 - k) (k + 1) (n + S[j].toNat % 128 * 2 ^ (7 * k)) (S.data.toList.drop (j + 1))) := by
          have := HN.out.2
          rw [hj.out, drop_at S j hjs, show 10 - k = (9 - k) + 1 by omega, rdF_step] at this
          exact this.symm
        have hbn := (S[j]).toNat_lt
        have HZ0 : Hid (S[j] = 0 ↔ S[j].toNat = 0) := ⟨fun h => by rw [h]; rfl, fun h => by apply UInt8.toNat_inj.1; rw [h]; rfl⟩
        obtain ⟨B, hB⟩ : ∃ B : Nat, S[j].toNat = B := ⟨_, rfl⟩
        rw [hB] at HST HZ0 hbn
        obtain ⟨A, hAe⟩ : ∃ A : Int, Hid (((B % 128 : Nat) : Int) = A) := ⟨_, rfl⟩
        obtain ⟨t, ht⟩ : ∃ t : Nat, Hid (7 * k = t) := ⟨_, rfl⟩
        have ht2 : 7 * (k : Int) = (t : Int) := by have := ht.out; omega
        have ht4 : (t : Int) ≤ 64 := by have := ht.out; omega
        have ht3 : t ≤ 63 := by have := ht.out; omega
        obtain ⟨Z, hZ⟩ : ∃ Z : Int, (B : Int) = Z := ⟨_, rfl⟩
        have HBZ : Hid ((B : Int) = Z ∧ B < 256) := ⟨hZ, by omega⟩
        have hZw : IntKind.u64.wrap Z = Z := by rw [IntKind.wrap_u64]; have := HBZ.out; omega
        have hA1 : Z % 128 = A := by have := HBZ.out; have := hAe.out; omega
        have hA2 : Z.tmod 128 = A := by rw [Int.tmod_eq_emod_of_nonneg (by have := HBZ.out; omega)]; exact hA1
        have a0 : 0 ≤ A := by have := hAe.out; omega
        have z0' : 0 ≤ Z := by have := HBZ.out; omega
        by_cases hfail : (B = 0 ∧ 0 < k) ∨ (k = 9 ∧ 1 < B)
        · have HFR : Hid (R = (0, none)) := by
            show R = _
            rw [← hR.out]
            unfold rdO
            simp only
            rw [HST.out, if_pos (by rcases hfail with h | h; exact .inl ⟨HZ0.out.2 h.1, h.2⟩; exact .inr h)]
          by_cases h9 : k = 9 ∧ 1 < B
          · have dz1 : decide (1 < Z) = true := decide_eq_true (by have := HBZ.out.1; omega)
            have dk9 : ((k : Int) == 9) = true := by rw [h9.1]; rfl
            clear hfail hbn HST h9
            go_wp2
            go_quiet (fail)
            go_wp2
            go_quiet (fail)
            go_wp2_with (go_at_call 55; (with_reducible refine (CF.out _ ?_).mono ?_); (first | exact HQ | exact HQ.drewN _ | exact (HQ.drewN _).drewN _); rintro e w2 ⟨rfl, hrd, hgr⟩; have HRD := Lib.hid hrd; have HGR := Lib.hid hgr; clear hrd hgr)
            go_ret
            rw [HFR.out]
            exact ⟨p, true, rfl, ⟨rfl, HP.out.1⟩, HRD, grw_trans (grw_dN HGr.out _) HGR.out⟩
          · have hz : B = 0 ∧ 0 < k := by rcases hfail with h | h; exact h; exact absurd h h9
            have z0 : Z = 0 := by have := HBZ.out.1; omega
            have dk0 : (0 : Int) < (k : Int) := by omega
            have dk0' : 0 < k := hz.2
            subst z0
            clear hfail hz hbn HST h9
            by_cases h99 : k = 9
            · have dk9 : ((k : Int) == 9) = true := by rw [h99]; rfl
              replace h99 := Lib.hid h99
              go_wp2
              go_quiet (fail)
              go_wp2
              go_quiet (fail)
              go_wp2_with (go_at_call 55; (with_reducible refine (CF.out _ ?_).mono ?_); (first | exact HQ | exact HQ.drewN _ | exact (HQ.drewN _).drewN _); rintro e w2 ⟨rfl, hrd, hgr⟩; have HRD := Lib.hid hrd; have HGR := Lib.hid hgr; clear hrd hgr)
              go_ret
              rw [HFR.out]
              exact ⟨p, true, rfl, ⟨rfl, HP.out.1⟩, HRD, grw_trans (grw_dN HGr.out _) HGR.out⟩
            · have dk9 : ((k : Int) == 9) = false := beq_eq_false_iff_ne.2 (by omega)
              clear h99
              go_wp2
              go_quiet (fail)
              go_wp2
              go_quiet (fail)
              go_wp2_with (go_at_call 55; (with_reducible refine (CF.out _ ?_).mono ?_); (first | exact HQ | exact HQ.drewN _ | exact (HQ.drewN _).drewN _); rintro e w2 ⟨rfl, hrd, hgr⟩; have HRD := Lib.hid hrd; have HGR := Lib.hid hgr; clear hrd hgr)
              go_ret
              rw [HFR.out]
              exact ⟨p, true, rfl, ⟨rfl, HP.out.1⟩, HRD, grw_trans (grw_dN HGr.out _) HGR.out⟩
        · have hbound : n + B % 128 * 2 ^ (7 * k) < 2 ^ 64 ∧ n + B % 128 * 2 ^ (7 * k) < 2 ^ (7 * (k + 1)) := acc_bound HN.out.1 (by omega) (by omega) (fun e => by
            have : ¬ 1 < B := fun h => hfail (.inr ⟨e, h⟩)
            omega)
          have HBD := Lib.hid hbound.2
          have hwr : IntKind.u64.wrap (A * 2 ^ t) = ((B % 128 * 2 ^ (7 * k) : Nat) : Int) := by
            rw [IntKind.wrap_u64, ← hAe.out, ← ht.out, show (((B % 128 : Nat) : Int) * 2 ^ (7 * k)) = ((B % 128 * 2 ^ (7 * k) : Nat) : Int) by rw [Int.natCast_mul, Int.natCast_pow]; rfl]
            have := hbound.1
            omega
          obtain ⟨F, hF⟩ : ∃ F : Int, Hid (((B % 128 * 2 ^ (7 * k) : Nat) : Int) = F) := ⟨_, rfl⟩
          obtain ⟨N2, hN2⟩ : ∃ N2 : Nat, Hid (n + B % 128 * 2 ^ (7 * k) = N2) := ⟨_, rfl⟩
          have hsum : IntKind.u64.wrap ((n : Int) + F) = (N2 : Int) := by rw [IntKind.wrap_u64, ← hF.out, ← hN2.out]; have := hbound.1; omega
          rw [hF.out] at hwr
          rw [hN2.out] at HBD HST
          have hN63 : (N2 : Int) < 18446744073709551616 := by have := hN2.out; have := hbound.1; omega
          replace hN63 := Lib.hid hN63
          clear hbound
          by_cases h128 : B < 128
          · have HRR : Hid (R = ((N2 : Int), some (S.data.toList.drop (j + 1)))) := by
              show R = _
              rw [← hR.out]
              unfold rdO
              simp only
              rw [HST.out, if_neg (fun h => hfail (by rcases h with h | h; exact .inl ⟨HZ0.out.1 h.1, h.2⟩; exact .inr h)), if_pos h128]
            have dlast : decide (Z < 128) = true := decide_eq_true (by have := HBZ.out.1; omega)
            have hj4 : IntKind.i64.wrap ((j : Int) + 1) = ((j + 1 : Nat) : Int) := by rw [IntKind.wrap_i64]; have := hj.out; omega
            obtain ⟨J, hJ⟩ : ∃ J : Nat, Hid (j + 1 = J) := ⟨_, rfl⟩
            have HSA := Lib.hid (HQ.setAt J)
            rw [hJ.out] at HRR hj4
            have HJle : Hid (J ≤ S.size) := by have := hJ.out; show _ ≤ _; omega
            by_cases hz : B = 0
            · have z0 : Z = 0 := by have := HBZ.out.1; omega
              have hk00 : k = 0 := by
                by_cases e : k = 0
                · exact e
                · exact absurd (.inl ⟨hz, by omega⟩) hfail
              subst z0
              have dk9 : ((k : Int) == 9) = false := beq_eq_false_iff_ne.2 (by omega)
              have dkz : decide ((0 : Int) < (k : Int)) = false := decide_eq_false (by omega)
              have dkz2 : decide (0 < k) = false := decide_eq_false (by omega)
              have hkn : ¬ 0 < k := by omega
              have hnn : IntKind.u64.wrap (n : Int) = (N2 : Int) := by rw [← hsum, ← hF.out, hz]; simp
              clear hfail hz hbn HST h128 hk00 hlt hk
              go_wp2
              go_quiet (fail)
              go_wp2
              go_quiet (fail)
              go_wp2
              go_ret
              rw [HRR.out]
              exact ⟨J, false, rfl, ⟨rfl, HJle.out⟩, HSA.out, grw_trans (grw_dN HGr.out _) (grw_set _ _ _ _)⟩
            · have dz0 : (Z == 0) = false := beq_eq_false_iff_ne.2 (by have := HBZ.out.1; omega)
              by_cases hk9 : k = 9
              · have dz1 : decide (1 < Z) = false := decide_eq_false (fun h => hfail (.inr ⟨hk9, by have := HBZ.out.1; omega⟩))
                have dk9 : ((k : Int) == 9) = true := by rw [hk9]; rfl
                replace hk9 := Lib.hid hk9
                clear hfail hz hbn HST h128
                go_wp2
                go_quiet (fail)
                go_wp2
                go_quiet (fail)
                go_wp2
                go_ret
                rw [HRR.out]
                exact ⟨J, false, rfl, ⟨rfl, HJle.out⟩, HSA.out, grw_trans (grw_dN HGr.out _) (grw_set _ _ _ _)⟩
              · have dk9 : ((k : Int) == 9) = false := beq_eq_false_iff_ne.2 (by omega)
                clear hfail hz hbn HST h128 hk9
                go_wp2
                go_quiet (fail)
                go_wp2
                go_quiet (fail)
                go_wp2
                go_ret
                rw [HRR.out]
                exact ⟨J, false, rfl, ⟨rfl, HJle.out⟩, HSA.out, grw_trans (grw_dN HGr.out _) (grw_set _ _ _ _)⟩
          · have dlast : decide (Z < 128) = false := decide_eq_false (by have := HBZ.out.1; omega)
            have k9 : ¬ k = 9 := fun e => hfail (.inr ⟨e, by omega⟩)
            have dk9 : ((k : Int) == 9) = false := beq_eq_false_iff_ne.2 (by omega)
            have HNX : Hid (rdF (10 - (k + 1)) (k + 1) N2 (S.data.toList.drop (p + (k + 1))) = rd (S.data.toList.drop p)) := by
              show _ = _
              rw [HST.out, if_neg (fun h => hfail (by rcases h with h | h; exact .inl ⟨HZ0.out.1 h.1, h.2⟩; exact .inr h)), if_neg h128]
              rw [show 10 - (k + 1) = 9 - k by omega, show p + (k + 1) = j + 1 by have := hj.out; omega]
            have dz0 : (Z == 0) = false := beq_eq_false_iff_ne.2 (by have := HBZ.out.1; omega)
            clear hfail h128 hbn HST k9
            go_wp2
            go_quiet (fail)
            go_wp2
            go_quiet (fail)
            go_wp2
            go_roundw
            case rel => exact ⟨k + 1, N2, by omega, by go_num, rfl, ⟨HBD.out, HNX.out⟩, HQ.drewN _, grw_dN HGr.out _⟩
            case measure => simp [intOf]; omega
      · have HFR : Hid (R = (0, none)) := by
          show R = _
          rw [← hR.out]
          unfold rdO
          simp only
          have h1 := HN.out.2
          have h2 : rdF (10 - k) k n (S.data.toList.drop (p + k)) = none := by
            rw [List.drop_eq_nil_of_le (by have := hj.out; simp; omega)]
            cases (10 - k) <;> rfl
          rw [← h1, h2]
        have dge : decide ((S.size : Int) ≤ (j : Int)) = true := decide_eq_true (by omega)
        have dge2 : decide (S.size ≤ j) = true := decide_eq_true (by omega)
        go_wp2
        go_quiet (fail)
        go_wp2_with (go_at_call 55; (with_reducible refine (CF.out _ ?_).mono ?_); (first | exact HQ | exact HQ.drewN _ | exact (HQ.drewN _).drewN _); rintro e w2 ⟨rfl, hrd, hgr⟩; have HRD := Lib.hid hrd; have HGR := Lib.hid hgr; clear hrd hgr)
        go_ret
        rw [HFR.out]
        exact ⟨p, true, rfl, ⟨rfl, HP.out.1⟩, HRD, grw_trans (grw_dN HGr.out _) HGR.out⟩
    · have hge : ¬ (k : Int) < 10 := by omega
      have HFR : Hid (R = (0, none)) := by
        show R = _
        rw [← hR.out]
        unfold rdO
        simp only
        have h1 := HN.out.2
        have h2 : rdF (10 - k) k n (S.data.toList.drop (p + k)) = none := by
          rw [show 10 - k = 0 by omega]
          cases S.data.toList.drop (p + k) <;> rfl
        rw [← h1, h2]
      go_wp2_with (go_at_call 55; (with_reducible refine (CF.out _ ?_).mono ?_); (first | exact HQ | exact HQ.drewN _ | exact (HQ.drewN _).drewN _); rintro e w2 ⟨rfl, hrd, hgr⟩; have HRD := Lib.hid hrd; have HGR := Lib.hid hgr; clear hrd hgr)
      go_ret
      rw [HFR.out]
      exact ⟨p, true, rfl, ⟨rfl, HP.out.1⟩, HRD, grw_trans HGr.out HGR.out⟩
end Pen
end Go.Proofs.Ytfincohdchnniaa
namespace Go.Proofs.Ytfincohdchnniaa
open Go.RowKit
namespace Pen
theorem st2_none {S : ByteArray} {p : Nat} {b : Bool} (h : st2 S p b = none) : b = true := by cases b with | true => rfl | false => cases h
theorem st2_some {S : ByteArray} {p : Nat} {b : Bool} {l : List UInt8} (h : st2 S p b = some l) : b = false := by cases b with | false => rfl | true => cases h
theorem rword_any (g : Nat) (S : ByteArray) (p : Nat) (bad : Bool) (hp : p ≤ S.size) (hs : S.size ≤ 1000000000) (w : World) (h : RrAt w g S p bad) :
    Calls Try.prog 54 #[.pointer (some ⟨g, 0, none⟩)] w (RrOut g S w .u64 (rdO (st2 S p bad))) := by
  cases bad with
  | true => exact rword_bad g S p hp w h
  | false => exact rword_good g S p hp hs w h
theorem below_dN {a b : World} {k : Nat} (h : Below k a b) (n : Nat) : Below k a (b.drewN n) := ⟨h.os, h.tape, h.output, h.size, h.block⟩
/-- What is made of a word. -/
def capped (most : Int) (r : Int × Option (List UInt8)) : Int × Option (List UInt8) := if (9223372036854775807 : Int) < r.1 ∨ most < r.1 ∨ r.2 = none then (0, none) else r
theorem capped_rdO (most : Int) (o : Option (List UInt8)) : capped most (rdO o) = uintS most o := by
  cases o with
  | none => simp [capped, rdO, uintS]
  | some l =>
    unfold rdO uintS
    simp only
    cases rd l with
    | none => simp [capped]
    | some r =>
      obtain ⟨n, l'⟩ := r
      simp only [capped]
      simp
theorem rdO_low (o : Option (List UInt8)) : 0 ≤ (rdO o).1 := by
  cases o with
  | none => decide
  | some l =>
    unfold rdO
    simp only
    cases rd l with
    | none => decide
    | some r => exact Int.natCast_nonneg _
set_option maxRecDepth 100000 in
set_option maxHeartbeats 2000000 in
theorem rrUint_any (g : Nat) (S : ByteArray) (p : Nat) (bad : Bool) (most : Int) (hp : p ≤ S.size) (hs : S.size ≤ 1000000000) (w : World) (h : RrAt w g S p bad) :
    Calls Try.prog 35 #[.pointer (some ⟨g, 0, none⟩), .int .i64 most] w (RrOut g S w .i64 (uintS most (st2 S p bad))) := by
  have CW := Lib.hid (rword_any g S p bad hp hs w h)
  have CF : Hid (∀ (w1 : World) (p1 : Nat) (b1 : Bool), RrAt w1 g S p1 b1 → _) := fun w1 p1 b1 h1 => rfails_any g S p1 b1 w1 h1
  rw [← capped_rdO]
  have n0 := rdO_low (st2 S p bad)
  generalize rdO (st2 S p bad) = r at CW n0
  obtain ⟨NI, o⟩ := r
  simp only at n0
  clear h hp hs
  by_cases hc1 : (9223372036854775807 : Int) < NI
  · have HU : Hid (capped most (NI, o) = (0, none)) := by show _ = _; unfold capped; rw [if_pos (.inl hc1)]
    rw [HU.out]
    have d1 : decide ((9223372036854775807 : Int) < NI) = true := decide_eq_true hc1
    clear hc1 n0
    cases o with
    | none =>
      go_enter Try.func35, Try.ntmps35
      go_wp2_with (first
        | (go_at_call 54; (with_reducible refine CW.out.mono ?_); rintro e w1 ⟨p', bad', rfl, hst, H1, G1⟩; (obtain rfl : bad' = true := st2_none hst.out.1); have c2 := H1.out.cells.2.2)
        | (go_at_call 55; (with_reducible refine (CF.out _ _ _ H1.out).mono ?_); rintro e w2 ⟨rfl, hrd, hgr⟩; have HRD := Lib.hid hrd; have HGR := Lib.hid (grw_trans G1.out hgr); clear hrd hgr))
      go_ret
      exact ⟨p', true, rfl, ⟨rfl, hst.out.2⟩, HRD, HGR⟩
    | some l =>
      go_enter Try.func35, Try.ntmps35
      go_wp2_with (first
        | (go_at_call 54; (with_reducible refine CW.out.mono ?_); rintro e w1 ⟨p', bad', rfl, hst, H1, G1⟩; (obtain rfl : bad' = false := st2_some hst.out.1); have c2 := H1.out.cells.2.2)
        | (go_at_call 55; (with_reducible refine (CF.out _ _ _ H1.out).mono ?_); rintro e w2 ⟨rfl, hrd, hgr⟩; have HRD := Lib.hid hrd; have HGR := Lib.hid (grw_trans G1.out hgr); clear hrd hgr))
      go_ret
      exact ⟨p', true, rfl, ⟨rfl, hst.out.2⟩, HRD, HGR⟩
  · have d1 : decide ((9223372036854775807 : Int) < NI) = false := decide_eq_false hc1
    have e1 : wrap64 NI = NI := by unfold wrap64; omega
    have e2 : IntKind.i64.wrap NI = NI := by rw [IntKind.wrap_i64]; omega
    by_cases hc2 : most < NI
    · have HU : Hid (capped most (NI, o) = (0, none)) := by show _ = _; unfold capped; rw [if_pos (.inr (.inl hc2))]
      rw [HU.out]
      have d2 : decide (most < NI) = true := decide_eq_true hc2
      clear hc1 n0 hc2
      cases o with
      | none =>
        go_enter Try.func35, Try.ntmps35
        go_wp2_with (first
          | (go_at_call 54; (with_reducible refine CW.out.mono ?_); rintro e w1 ⟨p', bad', rfl, hst, H1, G1⟩; (obtain rfl : bad' = true := st2_none hst.out.1); have c2 := H1.out.cells.2.2)
          | (go_at_call 55; (with_reducible refine (CF.out _ _ _ H1.out).mono ?_); rintro e w2 ⟨rfl, hrd, hgr⟩; have HRD := Lib.hid hrd; have HGR := Lib.hid (grw_trans G1.out hgr); clear hrd hgr))
        go_ret
        exact ⟨p', true, rfl, ⟨rfl, hst.out.2⟩, HRD, HGR⟩
      | some l =>
        go_enter Try.func35, Try.ntmps35
        go_wp2_with (first
          | (go_at_call 54; (with_reducible refine CW.out.mono ?_); rintro e w1 ⟨p', bad', rfl, hst, H1, G1⟩; (obtain rfl : bad' = false := st2_some hst.out.1); have c2 := H1.out.cells.2.2)
          | (go_at_call 55; (with_reducible refine (CF.out _ _ _ H1.out).mono ?_); rintro e w2 ⟨rfl, hrd, hgr⟩; have HRD := Lib.hid hrd; have HGR := Lib.hid (grw_trans G1.out hgr); clear hrd hgr))
        go_ret
        exact ⟨p', true, rfl, ⟨rfl, hst.out.2⟩, HRD, HGR⟩
    · have d2 : decide (most < NI) = false := decide_eq_false hc2
      cases o with
      | none =>
        have HU : Hid (capped most (NI, none) = (0, none)) := by show _ = _; unfold capped; rw [if_pos (.inr (.inr rfl))]
        rw [HU.out]
        clear hc1 n0 hc2
        go_enter Try.func35, Try.ntmps35
        go_wp2_with (first
          | (go_at_call 54; (with_reducible refine CW.out.mono ?_); rintro e w1 ⟨p', bad', rfl, hst, H1, G1⟩; (obtain rfl : bad' = true := st2_none hst.out.1); have c2 := H1.out.cells.2.2)
          | (go_at_call 55; (with_reducible refine (CF.out _ _ _ H1.out).mono ?_); rintro e w2 ⟨rfl, hrd, hgr⟩; have HRD := Lib.hid hrd; have HGR := Lib.hid (grw_trans G1.out hgr); clear hrd hgr))
        go_ret
        exact ⟨p', true, rfl, ⟨rfl, hst.out.2⟩, HRD, HGR⟩
      | some l =>
        have HU : Hid (capped most (NI, some l) = (NI, some l)) := by show _ = _; unfold capped; rw [if_neg (by rintro (h | h | h); exact hc1 h; exact hc2 h; cases h)]
        rw [HU.out]
        clear hc1 n0 hc2
        go_enter Try.func35, Try.ntmps35
        go_wp2_with (first
          | (go_at_call 54; (with_reducible refine CW.out.mono ?_); rintro e w1 ⟨p', bad', rfl, hst, H1, G1⟩; (obtain rfl : bad' = false := st2_some hst.out.1); have c2 := H1.out.cells.2.2)
          | (go_at_call 55; (with_reducible refine (CF.out _ _ _ H1.out).mono ?_); rintro e w2 ⟨rfl, hrd, hgr⟩; have HRD := Lib.hid hrd; have HGR := Lib.hid (grw_trans G1.out hgr); clear hrd hgr))
        go_ret
        exact ⟨p', false, rfl, hst, H1, G1⟩
set_option maxRecDepth 100000 in
theorem rrDone_any (g : Nat) (S : ByteArray) (p : Nat) (bad : Bool) (hp : p ≤ S.size) (w : World) (h : RrAt w g S p bad) :
    Calls Try.prog 36 #[.pointer (some ⟨g, 0, none⟩)] w fun e w' => e = .returned (.bool (doneS (st2 S p bad))) ∧ Below w.heap.size w w' := by
  obtain ⟨c0, c1, c2⟩ := h.cells
  clear h
  cases bad with
  | true =>
    have HU : Hid (doneS (st2 S p true) = false) := rfl
    rw [HU.out]
    go_enter Try.func36, Try.ntmps36
    go_wp2
    go_quiet (fail)
    go_wp2
    go_ret
    exact ⟨rfl, below_dN (Below.refl _ _) _⟩
  | false =>
    by_cases he : p = S.size
    · have HU : Hid (doneS (st2 S p false) = true) := by
        show (S.data.toList.drop p).isEmpty = true
        rw [List.drop_eq_nil_of_le (by simp; omega)]
        rfl
      rw [HU.out]
      have hb : ((p : Int) == (S.size : Int)) = true := by rw [he]; exact beq_self_eq_true _
      have hb2 : (p == S.size) = true := by rw [he]; exact beq_self_eq_true _
      clear he hp
      go_enter Try.func36, Try.ntmps36
      go_wp2
      go_quiet (fail)
      go_wp2
      go_ret
      exact ⟨rfl, below_dN (Below.refl _ _) _⟩
    · have HU : Hid (doneS (st2 S p false) = false) := by
        show (S.data.toList.drop p).isEmpty = false
        rw [List.isEmpty_eq_false_iff]
        intro h
        have := congrArg List.length h
        simp at this
        omega
      rw [HU.out]
      have hb : ((p : Int) == (S.size : Int)) = false := beq_eq_false_iff_ne.2 (by omega)
      have hb2 : (p == S.size) = false := beq_eq_false_iff_ne.2 he
      clear he hp
      go_enter Try.func36, Try.ntmps36
      go_wp2
      go_quiet (fail)
      go_wp2
      go_ret
      exact ⟨rfl, below_dN (Below.refl _ _) _⟩
end Pen
end Go.Proofs.Ytfincohdchnniaa
