/- Texts put together: AsmN, AsmB, AsmC, AsmD. -/
import Derived.Test.YtlhalhilnkneeaaGreatDoorM12
import Derived.Deep.Cut
import Derived.Deep.CutBlock
import Derived.Deep.DeepCutAuto
import Derived.Deep.RegionHeld3
import Derived.Test.YtlhalhilnkneeaaGreatDoorM07
set_option linter.all false
section
set_option maxRecDepth 100000
namespace Go.Proofs.YtlhalhilnkneeaaGreatDoor
open Go.RowKit Go.Great
namespace Asm
open Go.Lib (decDigits itoa)
open Pen (bs)
open In (strVals Strs)
open Frm (rows)
open Rec (below2 below_al below_dN Stk Stks stkVals)
open Cmd (Gives)
theorem digs_stop (c : UInt8) (r : List UInt8) : ∀ (p : List UInt8) (z n : Int), digsTo z p = some n → digStep n c = none → digsTo z (p ++ c :: r) = none
  | [], z, n, h, hs => by
    rw [digsTo] at h
    injection h with h
    subst h
    rw [List.nil_append, digsTo, hs]
  | x :: p, z, n, h, hs => by
    rw [digsTo] at h
    rw [List.cons_append, digsTo]
    cases hd : digStep z x with
    | none => rfl
    | some m => rw [hd] at h; exact digs_stop c r p m n h hs
/-- What is answered of a text's number. -/
def NumIs (l : List UInt8) (x : Int) (b : Bool) : Prop := (b = true ∧ numL l = some x) ∨ (b = false ∧ numL l = none)
def NumRes (l : List UInt8) (w : World) (e : Ending) (w' : World) : Prop := (∃ x b, e = .returned (.tuple #[.int .i64 x, .bool b]) ∧ NumIs l x b) ∧ Below w.heap.size w w'
theorem NumRes.mk {l : List UInt8} {w w' : World} {x : Int} {b : Bool} (h : NumIs l x b) (hb : Below w.heap.size w w') : NumRes l w (.returned (.tuple #[.int .i64 x, .bool b])) w' := ⟨⟨x, b, rfl, h⟩, hb⟩
theorem num_none {l : List UInt8} (h : refNum l = none) : NumIs l 0 false := Or.inr ⟨rfl, by rw [refNum_iff, h]⟩
theorem num_some {l : List UInt8} {n : Int} (h : refNum l = some n) (hn : I64 n) : NumIs l n (decide (itoa n = l)) := by
  by_cases e : itoa n = l
  · refine Or.inl ⟨decide_eq_true e, ?_⟩
    rw [refNum_iff, h]
    exact if_pos ⟨e, hn⟩
  · refine Or.inr ⟨decide_eq_false e, ?_⟩
    rw [refNum_iff, h]
    exact if_neg fun h => e h.1
/-- The digits ahead of a place. -/
def digP (s : ByteArray) (neg : Bool) (k : Nat) : List UInt8 := (s.data.toList.take k).drop (if neg then 1 else 0)
theorem digP_next (s : ByteArray) (neg : Bool) (k : Nat) (h : k < s.size) (hk : (if neg then 1 else 0) ≤ k) : digP s neg (k + 1) = digP s neg k ++ [s[k]] := by
  unfold digP
  rw [List.take_add_one, List.getElem?_eq_getElem (by simpa using h)]
  rw [List.drop_append_of_le_length (by simp; omega)]
  rfl
theorem digP_all (s : ByteArray) (neg : Bool) (k : Nat) (h : k < s.size) (hk : (if neg then 1 else 0) ≤ k) : s.data.toList.drop (if neg then 1 else 0) = digP s neg k ++ s[k] :: s.data.toList.drop (k + 1) := by
  have h1 := List.take_append_drop k s.data.toList
  have h2 : s.data.toList.drop k = s[k] :: s.data.toList.drop (k + 1) := by
    rw [List.drop_eq_getElem_cons (by simpa using h)]
    rfl
  rw [h2] at h1
  unfold digP
  rw [← List.drop_append_of_le_length (by simp; omega), h1]
theorem head_neg (s : ByteArray) (h : 0 < s.size) : (s.data.toList.head? = some 45) ↔ s[0] = 45 := by
  have : s.data.toList.head? = some s[0] := by
    rw [List.head?_eq_getElem?, List.getElem?_eq_getElem (by simpa using h)]
    rfl
  rw [this]
  simp
set_option maxHeartbeats 4000000 in
theorem refNumber_any (s : ByteArray) (hs : s.size ≤ 1000000) (w : World) : Calls Tryz.prog 58 #[.string s] w (NumRes s.data.toList w) := by
  have hlen : s.data.toList.length = s.size := by simp
  have NA : Hid (∀ (n : Int) (W : World), I64 n → Calls Tryz.prog 85 #[.int .i64 n] W fun e w' => e = .returned (.string (bs (itoa n))) ∧ Below W.heap.size W w') := fun n W hn => Rep.number_any n ⟨hn.1, hn.2⟩ W
  by_cases h1 : s.size < 1 ∨ 20 < s.size
  · have HR := Lib.hid (num_none (show refNum s.data.toList = none from if_pos (by rw [hlen]; exact h1)))
    rcases h1 with h1 | h1
    · have g1 : (s.size : Int) < 1 := by omega
      go_enter Tryz.func58, Tryz.ntmps58
      go_wp2
      go_ret2
      exact NumRes.mk HR.out (Below.refl _ _)
    · have g1 : ¬ (s.size : Int) < 1 := by omega
      have g2 : (20 : Int) < (s.size : Int) := by omega
      go_enter Tryz.func58, Tryz.ntmps58
      go_wp2
      go_ret2
      exact NumRes.mk HR.out (Below.refl _ _)
  · have g1 : ¬ (s.size : Int) < 1 := by omega
    have g2 : ¬ (20 : Int) < (s.size : Int) := by omega
    have g0 : 0 < s.size := by omega
    have hneg := head_neg s g0
    obtain ⟨neg, hng⟩ : ∃ neg : Bool, decide (s[0] = 45) = neg := ⟨_, rfl⟩
    have hbe : ((s[0].toNat : Int) == 45) = neg := by
      rw [← hng, Bool.eq_iff_iff]
      simp
      constructor
      · intro h
        have e45 : (45 : UInt8).toNat = 45 := rfl
        exact UInt8.toNat_inj.1 (by omega)
      · intro h
        rw [h]
        rfl
    have hd0 : (if s.data.toList.head? = some 45 then s.data.toList.drop 1 else s.data.toList) = s.data.toList.drop (if neg then 1 else 0) := by
      cases neg with
      | true => rw [if_pos (hneg.2 (of_decide_eq_true hng))]; rfl
      | false => rw [if_neg (fun e => (of_decide_eq_false hng) (hneg.1 e))]; rfl
    have hRN : Hid (refNum s.data.toList = match digsTo 0 (s.data.toList.drop (if neg then 1 else 0)) with
      | none => none
      | some n => if neg = true then some n else if n = -9223372036854775808 then none else some (-n)) := by
      show _ = _
      unfold refNum
      rw [if_neg (by rw [hlen]; omega), hd0]
      cases digsTo 0 (s.data.toList.drop (if neg then 1 else 0)) with
      | none => rfl
      | some n =>
        dsimp only
        cases neg with
        | true => rw [if_pos (hneg.2 (of_decide_eq_true hng)), if_pos rfl]
        | false =>
          rw [if_neg (fun e => (of_decide_eq_false hng) (hneg.1 e))]
          simp
    clear h1 hneg hng hd0
    go_enter Tryz.func58, Tryz.ntmps58
    go_wp2
    go_loopw [5, 6] (fun v5 v6 wr => ∃ (k : Nat) (n : Int), k ≤ s.size ∧ v6 = .int .i64 (k : Int) ∧ v5 = .int .i64 n ∧ (0 < k → (if neg then 1 else 0) ≤ k) ∧ Hid (digsTo 0 (digP s neg k) = some n) ∧ Hid (n ≤ 0 ∧ -9223372036854775808 ≤ n) ∧ Hid (Below w.heap.size w wr)) (fun _ v6 _ => s.size - (intOf v6).toNat)
    case atStart => exact ⟨0, 0, Nat.zero_le _, rfl, rfl, fun h => absurd h (Nat.lt_irrefl 0), (by show digsTo 0 _ = _; simp [digP, digsTo]), ⟨Int.le_refl _, by decide⟩, Below.refl _ _⟩
    case round =>
      obtain ⟨k, n, hk, rfl, rfl, hk1, HD, HI, HW⟩ := hrel
      by_cases hlt : k < s.size
      · have dk : decide ((k : Int) < (s.size : Int)) = true := decide_eq_true (by omega)
        have hk63 : (k : Int) < (s.size : Int) := by omega
        by_cases h0 : k = 0 ∧ neg = true
        · obtain ⟨rfl, rfl⟩ := h0
          have hD1 : Hid (digsTo 0 (digP s true 1) = some n) := by
            have e : digP s true 1 = [] := by
              unfold digP
              apply List.eq_nil_of_length_eq_zero
              simp
            have e2 : digP s true 0 = [] := by simp [digP]
            have := HD.out
            rw [e2] at this
            show _ = _
            rw [e]
            exact this
          go_wp2
          go_roundw
          case rel => exact ⟨1, n, by omega, by go_num, rfl, fun _ => Nat.le_refl _, hD1, HI.out, HW⟩
          case measure => simp [intOf]; omega
        · have hge : (if neg then 1 else 0) ≤ k := by
            by_cases hz : k = 0
            · cases neg with
              | true => exact absurd ⟨hz, rfl⟩ h0
              | false => exact Nat.zero_le _
            · exact hk1 (by omega)
          have gb : (decide (k = 0) && neg) = false := by
            cases neg with
            | true => simp; intro e; exact h0 ⟨e, rfl⟩
            | false => simp
          have NX := Lib.hid (digP_next s neg k hlt hge)
          have AL := Lib.hid (digP_all s neg k hlt hge)
          generalize digP s neg k = DP at *
          have stop : digStep n s[k] = none → NumIs s.data.toList 0 false := fun h => num_none (by
            rw [hRN.out, AL.out, digs_stop _ _ _ _ _ HD.out h])
          have STP := Lib.hid stop
          have two : (k = 0 ∧ neg = false) ∨ 0 < k := by
            by_cases hz : k = 0
            · cases neg with
              | true => exact absurd ⟨hz, rfl⟩ h0
              | false => exact Or.inl ⟨hz, rfl⟩
            · exact Or.inr (by omega)
          clear stop hge hk1 h0
          have hc256 := s[k].toNat_lt
          go_upto_region 8 with (fail)
          go_cut [29] (fun v wx => v = .bool false ∧ wx = wr)
          case first =>
            rcases two with ⟨hz, hz2⟩ | hz
            · subst hz
              subst hz2
              go_wp2
              go_meet
              case rel => exact ⟨rfl, rfl⟩
            · have bk : ((k : Int) == 0) = false := by simp; omega
              have bk2 : ¬ (k : Int) = 0 := by omega
              have bk3 : ¬ k = 0 := by omega
              go_wp2
              go_meet
              case rel => exact ⟨rfl, rfl⟩
          case rest =>
          obtain ⟨rfl, rfl⟩ := hcut
          by_cases a1 : s[k].toNat < 48
          · have a1' : (s[k].toNat : Int) < 48 := by omega
            have HR := Lib.hid (STP.out (if_pos (Or.inl a1)))
            go_wp2
            go_ret2
            exact NumRes.mk HR.out HW.out
          have a1' : ¬ (s[k].toNat : Int) < 48 := by omega
          by_cases a2 : 57 < s[k].toNat
          · have a2' : (57 : Int) < (s[k].toNat : Int) := by omega
            have HR := Lib.hid (STP.out (if_pos (Or.inr (Or.inl a2))))
            go_wp2
            go_ret2
            exact NumRes.mk HR.out HW.out
          have a2' : ¬ (57 : Int) < (s[k].toNat : Int) := by omega
          by_cases a3 : n < -922337203685477580
          · have HR := Lib.hid (STP.out (if_pos (Or.inr (Or.inr a3))))
            have a3d : decide (n < -922337203685477580) = true := decide_eq_true a3
            go_wp2
            go_ret2
            exact NumRes.mk HR.out HW.out
          have a3d : decide (n < -922337203685477580) = false := decide_eq_false a3
          obtain ⟨hi1, hi2⟩ := HI.out
          obtain ⟨d, hd⟩ : ∃ d : Int, Hid ((s[k].toNat : Int) - 48 = d) := ⟨(s[k].toNat : Int) - 48, Lib.hid rfl⟩
          have d0 : 0 ≤ d ∧ d ≤ 9 := by have := hd.out; omega
          have e1 : IntKind.u8.wrap ((s[k].toNat : Int) - 48) = d := by
            rw [← hd.out]
            simp only [IntKind.wrap]
            simp [IntKind.signed, IntKind.bits]
            omega
          have e2 : wrap64 d = d := by unfold wrap64; omega
          obtain ⟨M, hM⟩ : ∃ M : Int, Hid (10 * n = M) := ⟨_, rfl⟩
          have e3 : wrap64 (10 * n) = M := by rw [← hM.out]; unfold wrap64; omega
          obtain ⟨Z, hZ⟩ : ∃ Z : Int, Hid (-9223372036854775808 + d = Z) := ⟨_, rfl⟩
          have e4 : wrap64 (-9223372036854775808 + d) = Z := by rw [← hZ.out]; unfold wrap64; omega
          by_cases a4 : M < Z
          · have a4d : M < -9223372036854775808 + d := by have := hZ.out; omega
            have a4e : decide (M < -9223372036854775808 + d) = true := decide_eq_true a4d
            have a4f : ¬ -9223372036854775808 + d ≤ M := by omega
            have HR := Lib.hid (STP.out (by
              unfold digStep
              rw [if_neg (by omega), if_pos (by have := hM.out; have := hZ.out; have := hd.out; omega)]))
            clear a3 hi1 hi2
            go_wp2
            go_ret2
            exact NumRes.mk HR.out HW.out
          · have a4d : ¬ M < -9223372036854775808 + d := by have := hZ.out; omega
            have a4e : decide (M < -9223372036854775808 + d) = false := decide_eq_false a4d
            obtain ⟨N, hN⟩ : ∃ N : Int, Hid (M - d = N) := ⟨_, rfl⟩
            have e5 : wrap64 (M - d) = N := by
              rw [← hN.out]
              have := hM.out; have := hZ.out
              unfold wrap64; omega
            have hD1 : Hid (digsTo 0 (digP s neg (k + 1)) = some N) := by
              show _ = _
              rw [NX.out, digsTo_append, HD.out]
              dsimp only
              unfold digStep
              have := hM.out; have := hZ.out; have := hd.out; have := hN.out
              rw [if_neg (by omega), if_neg (by omega)]
              congr 1
              omega
            have hIN : Hid (N ≤ 0 ∧ -9223372036854775808 ≤ N) := by
              have := hM.out; have := hZ.out; have := hN.out
              exact ⟨by omega, by omega⟩
            have hkk : (if neg then 1 else 0) ≤ k + 1 := by cases neg <;> simp
            clear a3 hi1 hi2 d0
            go_wp2
            go_roundw
            case rel => exact ⟨k + 1, N, by omega, by go_num, by rw [e5], fun _ => hkk, hD1, hIN, HW⟩
            case measure => simp [intOf]; omega
      · have dk : decide ((k : Int) < (s.size : Int)) = false := decide_eq_false (by omega)
        have hks : k = s.size := by omega
        have hDA : digP s neg k = s.data.toList.drop (if neg then 1 else 0) := by
          unfold digP
          rw [List.take_of_length_le (by rw [hlen]; omega)]
        have HR := Lib.hid hRN.out
        have HD2 := HD.out
        rw [hDA] at HD2
        have HRN : Hid (refNum s.data.toList = if neg = true then some n else if n = -9223372036854775808 then none else some (-n)) := by
          show _ = _
          rw [hRN.out, HD2]
        obtain ⟨hi1, hi2⟩ := HI.out
        clear HR HD2 hDA HD hRN hks
        cases neg with
        | true =>
          have hI : I64 n := ⟨by omega, by omega⟩
          have NU := Lib.hid (num_some (HRN.out.trans (if_pos rfl)) hI)
          have QE : Hid (((bs (itoa n)).toList == s.toList) = decide (itoa n = s.data.toList)) := by
            show _ = _
            rw [bs_toList, ByteArray.toList_eq, Bool.eq_iff_iff]
            simp
          clear hi1 hi2
          go_wp2_with (go_at_call 85; (with_reducible refine (NA.out _ _ hI).mono ?_); rintro e w1 ⟨rfl, hb1⟩)
          go_ret2
          rw [QE.out]
          exact NumRes.mk NU.out (below2 HW.out hb1)
        | false =>
          by_cases hm : n = -9223372036854775808
          · have HZ := Lib.hid (num_none (HRN.out.trans (by rw [if_neg (by decide), if_pos hm])))
            clear hi1 hi2
            subst hm
            go_wp2
            go_ret2
            exact NumRes.mk HZ.out HW.out
          · have hI : I64 (-n) := ⟨by omega, by omega⟩
            have NU := Lib.hid (num_some (HRN.out.trans (by rw [if_neg (by decide), if_neg hm])) hI)
            obtain ⟨P, hP⟩ : ∃ P : Int, Hid (-n = P) := ⟨_, rfl⟩
            have e1 : wrap64 (-n) = P := by rw [← hP.out]; unfold wrap64; omega
            have m1 : (n == -9223372036854775808) = false := by simpa using hm
            rw [hP.out] at hI NU
            have QE : Hid (((bs (itoa P)).toList == s.toList) = decide (itoa P = s.data.toList)) := by
              show _ = _
              rw [bs_toList, ByteArray.toList_eq, Bool.eq_iff_iff]
              simp
            clear hi1 hi2 hm
            go_wp2_with (go_at_call 85; (with_reducible refine (NA.out _ _ hI).mono ?_); rintro e w1 ⟨rfl, hb1⟩)
            go_ret2
            rw [QE.out]
            exact NumRes.mk NU.out (below2 HW.out hb1)
end Asm
end Go.Proofs.YtlhalhilnkneeaaGreatDoor
end
section
set_option maxRecDepth 100000
namespace Go.Proofs.YtlhalhilnkneeaaGreatDoor
open Go.RowKit Go.Great
namespace Asm
open Go.Lib (decDigits itoa)
open Pen (bs)
open In (strVals Strs)
open Frm (rows)
open Rec (below2 below_al below_dN Stk Stks stkVals stkVals_append stkVals_length stks_of_own list_pair pair_new)
open Cmd (Gives Snum)
theorem listT_next (l : List Stk) (k : Nat) (h : k < l.length) : listT (l.take (k + 1)) = (if k = 0 then [] else listT (l.take k) ++ [44]) ++ itoa (l.getD k (0, 0)).1 ++ [120] ++ itoa (l.getD k (0, 0)).2 := by
  have e : l.take (k + 1) = l.take k ++ [l.getD k (0, 0)] := by
    rw [List.take_add_one, List.getElem?_eq_getElem h, List.getD_eq_getElem?_getD, List.getElem?_eq_getElem h]
    rfl
  unfold listT
  rw [e, List.map_append]
  by_cases h0 : k = 0
  · subst h0
    simp [joinL, stkT]
  · rw [List.map_singleton, joinL_snoc 44 _ _ (by
      intro e
      have := congrArg List.length e
      rw [List.length_map, List.length_take, List.length_nil] at this
      omega), if_neg h0]
    simp [stkT]
theorem listT_small (l : List Stk) (h : Snum l) (hn : l.length ≤ 100) : ∀ k, (listT (l.take k)).length ≤ 4200 := fun k => by
  have h1 := joinL_len 44 41 ((l.take k).map stkT) fun p hp => by
    obtain ⟨s, hs, rfl⟩ := List.mem_map.1 hp
    have hm := snum_mem h s (List.mem_of_mem_take hs)
    have h1 := itoa_len hm.1
    have h2 := itoa_len hm.2
    unfold stkT
    rw [List.length_append, List.length_cons]
    omega
  rw [List.length_map, List.length_take] at h1
  unfold listT
  have : 42 * min k l.length ≤ 42 * 100 := Nat.mul_le_mul_left _ (by omega)
  omega
theorem bs_add (a b : List UInt8) : bs a ++ bs b = bs (a ++ b) := (Pen.bs_append a b).symm
theorem sz_fits {A B : List UInt8} (ha : A.length ≤ 1000000) (hb : B.length ≤ 1000000) : ¬ 9223372036854775807 < (bs A).size + (bs B).size := by
  rw [Pen.bs_size, Pen.bs_size]; omega
set_option maxHeartbeats 4000000 in
theorem refList_any (a : Option Addr) (c : Nat) (l : List Stk) (n : Nat) (hn : l.length = n) (hl : n ≤ 100) (hi : Snum l) (w : World) (ha : Stks w a l) :
    Calls Tryz.prog 86 #[.slice a n c] w fun e w' => e = .returned (.string (bs (listT l))) ∧ Below w.heap.size w w' := by
  have HA := Lib.hid ha
  have HN := Lib.hid hn
  have HI := Lib.hid (snum_mem hi)
  have NA : Hid (∀ (n : Int), I64 n → ∀ (W : World), Calls Tryz.prog 85 #[.int .i64 n] W fun e w' => e = .returned (.string (bs (itoa n))) ∧ Below W.heap.size W w') := fun n hn W => Rep.number_any n ⟨hn.1, hn.2⟩ W
  have HS := Lib.hid (listT_small l hi (by omega))
  clear ha hn hi
  go_enter Tryz.func86, Tryz.ntmps86
  go_wp2
  go_loopw [3, 4] (fun s i wr => ∃ k : Nat, k ≤ n ∧ i = .int .i64 k ∧ s = .string (bs (listT (l.take k))) ∧ Hid (Below w.heap.size w wr)) (fun _ i _ => n - (intOf i).toNat)
  case atStart => exact ⟨0, by omega, rfl, rfl, Below.refl _ _⟩
  case round =>
    obtain ⟨k, hk, rfl, rfl, hb⟩ := hrel
    by_cases hlt : k < n
    · have hkl : k < l.length := by rw [HN.out]; exact hlt
      obtain ⟨b, off, rfl, hbl, hc, hd⟩ := (Stks.below HA.out hb.out) k hkl
      have hm := HI.out (l.getD k (0, 0)) (by rw [List.getD_eq_getElem?_getD, List.getElem?_eq_getElem hkl]; exact List.getElem_mem _)
      have NX := Lib.hid (NA.out _ hm.1)
      have NY := Lib.hid (NA.out _ hm.2)
      have LN := Lib.hid (listT_next l k hkl)
      have hz := HS.out k
      have hx := itoa_len hm.1
      have hy := itoa_len hm.2
      have d1 : decide ((k : Int) < (n : Int)) = true := decide_eq_true (by omega)
      have hlt1 : (k : Int) < (n : Int) := by omega
      have hk0 : (0 : Int) ≤ k := by omega
      generalize (l.getD k (0, 0)).1 = X at *
      generalize (l.getD k (0, 0)).2 = Y at *
      obtain ⟨T, HT⟩ : ∃ T, Hid (listT (l.take k) = T) := ⟨_, rfl⟩
      rw [HT.out] at LN hz ⊢
      obtain ⟨S, hS⟩ : ∃ S : List UInt8, (if k = 0 then [] else T ++ [44]) = S := ⟨_, rfl⟩
      have hSl : S.length ≤ 4201 := by rw [← hS]; split <;> simp; omega
      rw [hS] at LN
      have HT0 : Hid (k = 0 → bs T = bs []) := fun e => by
        have := HT.out
        subst e
        rw [← this]
        rfl
      go_upto_if 12 with (fail)
      go_cut [3] (fun v wx => v = .string (bs S) ∧ wx = wr)
      case first =>
        by_cases h0 : k = 0
        · have S0 : S = [] := by rw [← hS, if_pos h0]
          have T0 := Lib.hid (HT0.out h0)
          have g0 : ¬ (0 : Int) < (k : Int) := by omega
          have E0 : Hid (bs T = bs S) := by show _ = _; rw [S0]; exact T0.out
          clear hS h0 S0
          go_wp2
          go_meet
          case rel => exact ⟨congrArg Value.string E0.out, rfl⟩
        · have S0 : Hid (bs T ++ bs [44] = bs S) := by
            show _ = _
            rw [← hS, if_neg h0, bs_add]
          have g0 : (0 : Int) < (k : Int) := by omega
          have z0 := sz_fits (A := T) (B := [44]) (by omega) (by simp)
          have e44 : (⟨#[44]⟩ : ByteArray) = bs [44] := rfl
          clear hS h0
          go_wp2
          go_meet
          case rel => exact ⟨congrArg Value.string S0.out, rfl⟩
      case rest =>
        obtain ⟨rfl, rfl⟩ := hcut
        have q1 := bs_add S (itoa X)
        have q2 := bs_add (S ++ itoa X) [120]
        have q3 := bs_add (S ++ itoa X ++ [120]) (itoa Y)
        have z1 := sz_fits (A := S) (B := itoa X) (by omega) (by omega)
        have z2 := sz_fits (A := S ++ itoa X) (B := [120]) (by rw [List.length_append]; omega) (by simp)
        have z3 := sz_fits (A := S ++ itoa X ++ [120]) (B := itoa Y) (by rw [List.length_append, List.length_append]; simp; omega) (by omega)
        have z2b : ¬ 9223372036854775807 < (bs (S ++ itoa X)).size + 1 := by rw [Pen.bs_size, List.length_append]; omega
        have z3b : ¬ 9223372036854775807 < (bs (S ++ itoa X)).size + 1 + (bs (itoa Y)).size := by rw [Pen.bs_size, Pen.bs_size, List.length_append]; omega
        have FL : Hid (∀ V, Hid (Below wc.heap.size wc V) → V.cell? ⟨b, off + k * 2, none⟩ = some (.int .i64 X) ∧ V.cell? ⟨b, off + k * 2 + 1, none⟩ = some (.int .i64 Y)) := fun V hV => ⟨(hV.out.cell (p := ⟨b, off + k * 2, none⟩) hbl).trans hc, (hV.out.cell (p := ⟨b, off + k * 2 + 1, none⟩) hbl).trans hd⟩
        have B0 : Hid (Below wc.heap.size wc wc.drew) := (Below.refl _ _).drew
        go_upto_region 7 with (fail)
        go_region_held3 (fun V => V.cell? ⟨b, off + k * 2, none⟩ = some (.int .i64 X) ∧ V.cell? ⟨b, off + k * 2 + 1, none⟩ = some (.int .i64 Y)) (first | exact FL.out _ (by with_reducible assumption))
          (first
          | (go_at_call 85; (with_reducible refine (NX.out _).mono ?_); rintro e w5 ⟨rfl, hb5⟩; have B5 : Hid (Below wc.heap.size wc w5) := below2 (Hid.out (by with_reducible assumption)) hb5)
          | (go_at_call 85; (with_reducible refine (NY.out _).mono ?_); rintro e w6 ⟨rfl, hb6⟩; have B6 : Hid (Below wc.heap.size wc w6) := below2 (Hid.out (by with_reducible assumption)) hb6))
        have EE : Hid (bs (S ++ itoa X) ++ ⟨#[120]⟩ ++ bs (itoa Y) = bs (listT (l.take (k + 1)))) := by
          have e120 : (⟨#[120]⟩ : ByteArray) = bs [120] := rfl
          show _ = _
          rw [e120, q2, q3, LN.out]
        have HBB : Hid (Below w.heap.size w w6) := below2 hb.out B6.out
        clear q1 q2 q3 z1 z2 z3 z2b z3b hb5 hb6
        go_wp2
        go_roundw
        case rel => exact ⟨k + 1, by omega, by go_num, congrArg Value.string EE.out, HBB⟩
        case measure => simp [intOf]; omega
    · have d1 : decide ((k : Int) < (n : Int)) = false := decide_eq_false (by omega)
      have hlt1 : ¬ (k : Int) < (n : Int) := by omega
      have htk : l.take k = l := List.take_of_length_le (by rw [HN.out]; omega)
      rw [htk]
      go_wp2
      go_ret
      exact ⟨rfl, hb.out⟩
theorem splitL_mem (b : UInt8) : ∀ (l p : List UInt8), p ∈ splitL b l → p.length ≤ l.length
  | [], p, h => by rw [splitL, List.mem_singleton] at h; rw [h]; exact Nat.le_refl _
  | x :: l, p, h => by
    rw [splitL] at h
    split at h
    · rcases List.mem_cons.1 h with rfl | h
      · exact Nat.zero_le _
      · have := splitL_mem b l p h
        rw [List.length_cons]; omega
    · have ih := splitL_mem b l
      split at h
      · rename_i h0; exact absurd h0 (splitL_ne b l)
      · rename_i q r h0
        rw [h0] at ih
        rcases List.mem_cons.1 h with rfl | h
        · have := ih q (List.mem_cons_self ..)
          rw [List.length_cons, List.length_cons]; omega
        · have := ih p (List.mem_cons_of_mem _ h)
          rw [List.length_cons]; omega
theorem cutL_len (b : UInt8) : ∀ (l : List UInt8) (p : List UInt8 × List UInt8), cutL b l = some p → p.1.length ≤ l.length ∧ p.2.length ≤ l.length
  | [], p, h => by cases h
  | x :: l, p, h => by
    rw [cutL] at h
    split at h
    · cases h
      exact ⟨Nat.zero_le _, by rw [List.length_cons]; show l.length ≤ _; omega⟩
    · cases hc : cutL b l with
      | none => rw [hc] at h; cases h
      | some q =>
        rw [hc] at h
        cases h
        have := cutL_len b l q hc
        exact ⟨by show q.1.length + 1 ≤ _; rw [List.length_cons]; omega, by show q.2.length ≤ _; rw [List.length_cons]; omega⟩
theorem cutS_len (b : UInt8) (l : List UInt8) : (cutS b l).1.length ≤ l.length ∧ (cutS b l).2.1.length ≤ l.length := by
  unfold cutS
  cases h : cutL b l with
  | none => exact ⟨Nat.le_refl _, Nat.zero_le _⟩
  | some p => exact cutL_len b l p h
/-- The stacks of a text, as they are given. -/
def StkRes (o : Option (List Stk)) (w : World) (e : Ending) (w' : World) : Prop :=
  ((∃ l a cap, o = some l ∧ e = .returned (.tuple #[.slice a l.length cap, .bool true]) ∧ Hid (Stks w' a l) ∧ Hid (∀ x, a = some x → w.heap.size ≤ x.block) ∧ (a = none → cap = 0)) ∨ (o = none ∧ e = .returned (.tuple #[.slice none 0 0, .bool false]))) ∧ Hid (Below w.heap.size w w')
theorem StkRes.yes {o : Option (List Stk)} {w w' : World} {l : List Stk} {v : Value} {n : Nat} (ho : o = some l) (hn : n = l.length) (h : w'.ownsRow w.heap.size 106 2 v n (stkVals l)) (hb : Below w.heap.size w w') : StkRes o w (.returned (.tuple #[v, .bool true])) w' := by
  subst hn
  have h2 := h
  obtain ⟨a, cap, rfl, hs⟩ := stks_of_own h
  refine ⟨Or.inl ⟨l, a, cap, ho, rfl, hs, fun x hx => ?_, fun hn => ?_⟩, hb⟩
  · subst hx
    exact (h2.lt x.block rfl).1
  · subst hn
    rcases h2 with ⟨_, h3 | ⟨g, c, cur, h3, _⟩⟩
    · have h4 := h3.1
      injection h4 with _ _ e
    · cases h3
theorem StkRes.no {o : Option (List Stk)} {w w' : World} (ho : o = none) (hb : Below w.heap.size w w') : StkRes o w (.returned (.tuple #[.slice none 0 0, .bool false])) w' := ⟨Or.inr ⟨ho, rfl⟩, hb⟩
theorem allO_next {α : Type} (l : List (Option α)) (k : Nat) (h : k < l.length) (m : List α) (hm : allO (l.take k) = some m) : (∀ x, l[k] = some x → allO (l.take (k + 1)) = some (m ++ [x])) ∧ (l[k] = none → allO l = none) := by
  induction l generalizing k m with
  | nil => exact absurd h (Nat.not_lt_zero _)
  | cons y l ih =>
    cases k with
    | zero =>
      have e : m = [] := by simpa [allO] using hm.symm
      subst e
      refine ⟨fun x hx => ?_, fun hx => ?_⟩
      · have hx : y = some x := hx
        subst hx
        rfl
      · have hx : y = none := hx
        subst hx
        rfl
    | succ k =>
      have hk : k < l.length := by simpa using h
      cases y with
      | none => rw [List.take_succ_cons, allO] at hm; cases hm
      | some y =>
        rw [List.take_succ_cons, allO] at hm
        cases hr : allO (l.take k) with
        | none => rw [hr] at hm; cases hm
        | some q =>
          rw [hr] at hm
          cases hm
          obtain ⟨i1, i2⟩ := ih k hk q hr
          refine ⟨fun x hx => ?_, fun hx => ?_⟩
          · rw [List.take_succ_cons, allO, i1 x hx]; rfl
          · rw [allO, i2 hx]; rfl
theorem stkL_cut (P : List UInt8) : stkL P = if (cutS 120 P).2.2 = true then (match numL (cutS 120 P).1, numL (cutS 120 P).2.1 with
    | some n, some m => some (n, m)
    | _, _ => none) else none := by
  unfold stkL cutS
  cases cutL 120 P with
  | none => rfl
  | some p => rfl
end Asm
end Go.Proofs.YtlhalhilnkneeaaGreatDoor
end
section
set_option maxRecDepth 100000
namespace Go.Proofs.YtlhalhilnkneeaaGreatDoor
open Go.RowKit Go.Great
namespace Asm
open Go.Lib (decDigits itoa)
open Pen (bs)
open In (strVals Strs)
open Frm (rows)
open Rec (below2 below_al below_dN Stk Stks stkVals stkVals_append stkVals_length stks_of_own list_pair pair_new)
open Cmd (Gives Snum)
theorem kinfo : (Tryz.prog.info? 106).map (fun i => (i.zero, i.size, i.bytes)) = some (some (.agg #[.int .i64 0, .int .i64 0]), 2, 16) := by kernel_rfl
theorem num_is {l : List UInt8} {x : Int} {b : Bool} (h : NumIs l x b) : numL l = if b = true then some x else none := by
  rcases h with ⟨rfl, h⟩ | ⟨rfl, h⟩
  · rw [if_pos rfl]; exact h
  · rw [if_neg (by decide)]; exact h
set_option maxHeartbeats 4000000 in
theorem refStacks37_any (s : ByteArray) (hs : s.size ≤ 1000000) (w : World) : Calls Tryz.prog 57 #[.string s] w (StkRes (stksL s.data.toList) w) := by
  obtain ⟨i0, hi, hz0, hz1, hz2⟩ := info_parts kinfo
  have hlen : s.data.toList.length = s.size := by simp
  have SP : Hid (∀ W, Calls Tryz.prog 28 #[.string s, .int .u8 44] W (Gives (rows (splitL 44 s.data.toList)) W)) := fun W => refSplit_any s 44 hs W
  have CU : Hid (∀ (P : List UInt8), P.length ≤ 1000000 → ∀ W, Calls Tryz.prog 55 #[.string (bs P), .int .u8 120] W fun e w' => e = .returned (.tuple #[.string (bs (cutS 120 P).1), .string (bs (cutS 120 P).2.1), .bool (cutS 120 P).2.2]) ∧ Below W.heap.size W w') := fun P hP W => refCut_any (bs P) 120 (by rw [Pen.bs_size]; exact hP) W
  have NU : Hid (∀ (P : List UInt8), P.length ≤ 1000000 → ∀ W, Calls Tryz.prog 58 #[.string (bs P)] W (NumRes P W)) := fun P hP W => refNumber_any (bs P) (by rw [Pen.bs_size]; exact hP) W
  have hpl : (splitL 44 s.data.toList).length ≤ 1000001 := by
    rw [splitL_len]
    have h := List.count_le_length (a := (44 : UInt8)) (l := s.data.toList)
    rw [hlen] at h
    omega
  have hpe : Hid (∀ p ∈ splitL 44 s.data.toList, p.length ≤ 1000000) := fun p hp => by
    have := splitL_mem 44 _ p hp
    omega
  have hO : Hid (stksL s.data.toList = if 8 < (splitL 44 s.data.toList).length then none else allO ((splitL 44 s.data.toList).map stkL)) := rfl
  rw [hO.out]
  generalize splitL 44 s.data.toList = PS at *
  obtain ⟨N, hN⟩ : ∃ N, Hid ((rows PS).length = N) := ⟨_, rfl⟩
  have hN2 : Hid (PS.length = N) := by rw [← hN.out]; exact (rows_len PS).symm
  have hNl : N ≤ 1000001 := by rw [← hN2.out]; exact hpl
  obtain ⟨O, hOO⟩ : ∃ O, Hid ((if 8 < PS.length then none else allO (PS.map stkL)) = O) := ⟨_, rfl⟩
  rw [hOO.out]
  clear hpl
  go_enter Tryz.func57, Tryz.ntmps57
  go_wp2_with (go_at_call 28; (with_reducible refine (SP.out _).mono ?_); rintro e w1 ⟨pa, pc, rfl, HS, HB1, -⟩; rw [hN.out])
  go_loopw [5, 6] (fun v5 v6 wr => ∃ (k : Nat) (l : List Stk), k ≤ N ∧ v6 = .int .i64 (k : Int) ∧ Hid (l.length = k) ∧ Hid (allO ((PS.map stkL).take k) = some l) ∧ Hid (wr.ownsRow w1.heap.size 106 2 v5 k (stkVals l)) ∧ Hid (Below w1.heap.size w1 wr)) (fun _ v6 _ => N - (intOf v6).toNat)
  case atStart => exact ⟨0, [], Nat.zero_le _, rfl, rfl, rfl, World.ownsRow_nil _ _ _ _, Below.refl _ _⟩
  case round =>
    obtain ⟨k, l, hk, rfl, HL, HM, HO, HB⟩ := hrel
    by_cases hlt : k < N
    · have dk : decide ((k : Int) < (N : Int)) = true := decide_eq_true (by omega)
      have hlt1 : (k : Int) < (N : Int) := by omega
      have hkl : k < PS.length := by rw [hN2.out]; exact hlt
      obtain ⟨b, off, rfl, hbl, hc⟩ := (HS.out.below HB.out) k (by rw [hN.out]; exact hlt)
      rw [rows_getD] at hc
      have hPm : PS.getD k [] ∈ PS := by rw [List.getD_eq_getElem?_getD, List.getElem?_eq_getElem hkl]; exact List.getElem_mem _
      have hPl := hpe.out _ hPm
      have AN := allO_next (PS.map stkL) k (by simpa using hkl) l HM.out
      have hmk : (PS.map stkL)[k]'(by simpa using hkl) = stkL (PS.getD k []) := by
        rw [List.getElem_map, List.getD_eq_getElem?_getD, List.getElem?_eq_getElem hkl]; rfl
      rw [hmk] at AN
      have ON : Hid (stkL (PS.getD k []) = none → O = none) := fun h => by
        rw [← hOO.out]
        split
        · rfl
        · exact AN.2 h
      have OS := Lib.hid AN.1
      clear AN hmk hPm
      generalize PS.getD k [] = P at *
      have SC := Lib.hid (stkL_cut P)
      have CP := Lib.hid (CU.out P hPl)
      have cl := cutS_len 120 P
      generalize cutS 120 P = CS at *
      obtain ⟨c1, c2, c3⟩ := CS
      have N1 := Lib.hid (NU.out c1 (by have := cl.1; dsimp only at this; omega))
      have N2 := Lib.hid (NU.out c2 (by have := cl.2; dsimp only at this; omega))
      clear cl hPl
      dsimp only at SC CP
      cases c3 with
      | false =>
        have HR := Lib.hid (ON.out (by rw [SC.out]; simp))
        go_wp2_with (first
        | (go_at_call 55; (with_reducible refine (CP.out _).mono ?_); rintro e w3 ⟨rfl, hb3⟩; have HB3 := Lib.hid (below2 HB.out hb3))
        | (go_at_call 58; (with_reducible refine (N1.out _).mono ?_); rintro e w4 ⟨⟨x, p, rfl, hp⟩, hb4⟩; have HP := Lib.hid hp; have HB4 := Lib.hid (below2 HB3.out hb4); clear hp)
        | (go_at_call 58; (with_reducible refine (N2.out _).mono ?_); rintro e w5 ⟨⟨y, q, rfl, hq⟩, hb5⟩; have HQ := Lib.hid hq; have HB5 := Lib.hid (below2 HB4.out hb5); clear hq))
        go_ret2
        exact StkRes.no HR.out (below2 HB1.out HB5.out)
      | true =>
        go_wp2_with (first
        | (go_at_call 55; (with_reducible refine (CP.out _).mono ?_); rintro e w3 ⟨rfl, hb3⟩; have HB3 := Lib.hid (below2 HB.out hb3))
        | (go_at_call 58; (with_reducible refine (N1.out _).mono ?_); rintro e w4 ⟨⟨x, p, rfl, hp⟩, hb4⟩; have HP := Lib.hid hp; have HB4 := Lib.hid (below2 HB3.out hb4); clear hp; cases p)
        | (go_at_call 58; (with_reducible refine (N2.out _).mono ?_); rintro e w5 ⟨⟨y, q, rfl, hq⟩, hb5⟩; have HQ := Lib.hid hq; have HB5 := Lib.hid (below2 HB4.out hb5); clear hq; have HO5 := Lib.hid (Own.own_below HO.out (below2 (below2 hb3 hb4) hb5)); cases q)
        | (at_builtin; refine list_pair rfl (.tmp 51) (.tmp 55) 39 rfl w1.heap.size 106 i0 _ 16 Tryz.underlying39 hi hz0 hz1 hz2 rfl _ k _ rfl _ _ _ _ rfl (HO5.out.alloc _) (pair_new _ _ _ _).1 (pair_new _ _ _ _).2 rfl rfl ?h1 ?h2 ?h3 ?_; (case h1 => unfold maxLen; omega); (case h2 => omega); (case h3 => have := HB5.out.size; simp; omega); intro v' w6 hown6 hgrow6))
        · have HR := Lib.hid (ON.out (by rw [SC.out]; simp [num_is HP.out, num_is HQ.out]))
          go_ret2
          exact StkRes.no HR.out (below2 HB1.out HB5.out)
        · have HR := Lib.hid (ON.out (by rw [SC.out]; simp [num_is HP.out, num_is HQ.out]))
          go_ret2
          exact StkRes.no HR.out (below2 HB1.out HB5.out)
        · have HR := Lib.hid (ON.out (by rw [SC.out]; simp [num_is HP.out, num_is HQ.out]))
          go_ret2
          exact StkRes.no HR.out (below2 HB1.out HB5.out)
        · have HR := Lib.hid (OS.out (x, y) (by rw [SC.out]; simp [num_is HP.out, num_is HQ.out]))
          have hb6 := (HB5.out.alloc HB5.out.size _).grown hgrow6 (by have := HB5.out.size; simp; omega) (Own.own_block HO5.out (Nat.le_refl _))
          have HB6 := Lib.hid hb6
          have hown7 : Hid (w6.ownsRow w1.heap.size 106 2 v' (k + 1) (stkVals (l ++ [(x, y)]))) := by
            show World.ownsRow _ _ _ _ _ _ _
            rw [stkVals_append]
            exact hown6
          have HL2 : Hid ((l ++ [(x, y)]).length = k + 1) := by
            show _ = _
            rw [List.length_append, HL.out]
            rfl
          clear hown6 hgrow6 hb6
          go_roundw
          case rel => exact ⟨k + 1, l ++ [(x, y)], by omega, by go_num, HL2, HR, hown7, HB6⟩
          case measure => simp [intOf]; omega
    · have dk : decide ((k : Int) < (N : Int)) = false := decide_eq_false (by omega)
      have hlt1 : ¬ (k : Int) < (N : Int) := by omega
      have hkN : k = N := by omega
      have htk : (PS.map stkL).take k = PS.map stkL := List.take_of_length_le (by rw [List.length_map, hN2.out]; omega)
      have HM2 := HM.out
      rw [htk] at HM2
      have HBB := Lib.hid (below2 HB1.out HB.out)
      have HO2 := HO.out
      rw [← HL.out] at HO2
      obtain ⟨oa, oc, rfl, -⟩ := stks_of_own HO2
      have hll := HL.out
      by_cases h8 : 8 < N
      · have g8 : (8 : Int) < (l.length : Int) := by omega
        have HR : Hid (O = none) := by show _ = _; rw [← hOO.out, if_pos (by rw [hN2.out]; exact h8)]
        clear hkN hll
        go_wp2
        go_ret2
        exact StkRes.no HR.out HBB.out
      · have g8 : ¬ (8 : Int) < (l.length : Int) := by omega
        have HR : Hid (O = some l) := by show _ = _; rw [← hOO.out, if_neg (by rw [hN2.out]; exact h8), HM2]
        clear hkN hll
        go_wp2
        go_ret2
        exact StkRes.yes HR.out rfl (own_base HO2 HB1.out.size) HBB.out
end Asm
end Go.Proofs.YtlhalhilnkneeaaGreatDoor
end
section
set_option maxRecDepth 100000
namespace Go.Proofs.YtlhalhilnkneeaaGreatDoor
open Go.RowKit Go.Great
namespace Asm
open Go.Lib (decDigits itoa)
open Pen (bs)
open In (strVals Strs)
open Frm (rows)
open Rec (below2 below_al below_dN Stk Stks stkVals stkVals_append stkVals_length stks_of_own list_pair pair_new)
open Cmd (Gives Snum CmdIn fi fn nm names place nameOf chkV Cok Lies Stand stand_new load_cmd run_load_cmd chkV_01 fn_get fi_len getV place_nm)
/-- A line so far. -/
def lineP (c : CmdIn) (k : Nat) : List UInt8 := joinL 32 ((nameOf c.kind).data.toList :: fieldsT c ((fi c.kind).take k))
theorem lineP_zero (c : CmdIn) : lineP c 0 = (nameOf c.kind).data.toList := by simp [lineP, fieldsT, joinL]
theorem lineP_next (c : CmdIn) (k : Nat) (h : k < (fi c.kind).length) : lineP c (k + 1) = if c.num ((fi c.kind).getD k 0) = 0 then lineP c k else lineP c k ++ 32 :: (names.getD ((fi c.kind).getD k 0) [] ++ 61 :: itoa (c.num ((fi c.kind).getD k 0))) := by
  have e : (fi c.kind).take (k + 1) = (fi c.kind).take k ++ [(fi c.kind).getD k 0] := by
    rw [List.take_add_one, List.getElem?_eq_getElem h, List.getD_eq_getElem?_getD, List.getElem?_eq_getElem h]
    rfl
  have e2 : fieldsT c ((fi c.kind).take (k + 1)) = fieldsT c ((fi c.kind).take k) ++ fieldT c ((fi c.kind).getD k 0) := by
    rw [e]
    unfold fieldsT
    rw [List.flatMap_append]
    simp
  unfold lineP
  rw [e2]
  unfold fieldT
  split
  · rw [List.append_nil]
  · rw [← List.cons_append, joinL_snoc 32 _ _ (List.cons_ne_nil _ _)]
theorem lineT_eq (c : CmdIn) : lineT c = lineP c (fi c.kind).length ++ (if c.gives = [] then [] else 32 :: (givesN ++ 61 :: listT c.gives)) ++ (if c.wants = [] then [] else 32 :: (wantsN ++ 61 :: listT c.wants)) := by
  unfold lineT lineP lineW tailT
  rw [List.take_length]
  by_cases hg : c.gives = [] <;> by_cases hw : c.wants = []
  · simp [hg, hw]
  · rw [if_pos hg, if_neg hw, if_pos hg, if_neg hw, List.append_nil, List.nil_append, ← List.cons_append, joinL_snoc 32 _ _ (List.cons_ne_nil _ _)]
  · rw [if_neg hg, if_pos hw, if_neg hg, if_pos hw, List.append_nil, List.append_nil, ← List.cons_append, joinL_snoc 32 _ _ (List.cons_ne_nil _ _)]
  · rw [if_neg hg, if_neg hw, if_neg hg, if_neg hw, ← List.append_assoc, ← List.cons_append, joinL_snoc 32 _ _ (by simp), ← List.cons_append, joinL_snoc 32 _ _ (List.cons_ne_nil _ _)]
theorem lineP_len (c : CmdIn) (hc : Cok c) (k : Nat) : (lineP c k).length ≤ 400 := by
  have hI : ∀ i ∈ fi c.kind, I64 (c.num i) := fun i hi => ⟨(hc.num i (Cmd.fi_small _ i hi)).1, (hc.num i (Cmd.fi_small _ i hi)).2⟩
  have a1 := joinL_sum 32 ((nameOf c.kind).data.toList :: fieldsT c ((fi c.kind).take k))
  have a2 := fieldsT_sum c hI ((fi c.kind).take k) fun i hi => List.mem_of_mem_take hi
  have a3 := fi_len c.kind
  have a4 : (nameOf c.kind).data.toList.length ≤ 7 := by
    by_cases hk : 1 ≤ c.kind ∧ c.kind ≤ 25
    · rw [name_word hk]
      exact (words_bytes (c.kind - 1).toNat (by omega)).2.2
    · unfold nameOf
      rw [if_neg hk]
      exact Nat.zero_le _
  rw [List.length_take] at a2
  rw [sumL] at a1
  have a5 : 28 * min k (fi c.kind).length ≤ 28 * 11 := Nat.mul_le_mul_left _ (by omega)
  unfold lineP
  omega
theorem nil_len {α : Type} {l : List α} : l = [] ↔ l.length = 0 := List.length_eq_zero_iff.symm
set_option maxHeartbeats 8000000 in
theorem refLine_any (c : CmdIn) (w : World) (hl : Lies w c) (hc : Cok c) : Calls Tryz.prog 39 #[.agg c.val] w fun e w' => e = .returned (.tuple #[.string (bs (lineV c).1), .int .i64 (lineV c).2]) ∧ Below w.heap.size w w' := by
  have HL := Lib.hid hl
  have HC := Lib.hid hc
  have HST := Lib.hid (stand_new (w := w) rfl c)
  have CK : Hid (∀ W, Calls Tryz.prog 82 #[.agg c.val] W fun e w' => e = .returned (.int .i64 (chkV c)) ∧ Below W.heap.size W w') := fun W => Cmd.refCheck_any c W hc.few
  have CF : Hid (∀ W, Calls Tryz.prog 59 #[.int .i64 c.kind] W (Gives (fn c.kind) W)) := fun W => Cmd.refFields_any c.kind W
  have CN : Hid (∀ W, Calls Tryz.prog 83 #[.int .i64 c.kind] W fun e w' => e = .returned (.string (nameOf c.kind)) ∧ Below W.heap.size W w') := fun W => Cmd.refName_any c.kind W
  have CG : Hid (∀ s W, Calls Tryz.prog 84 #[.agg c.val, .string s] W fun e w' => e = .returned (.tuple #[.int .i64 (getV c s).1, .bool (getV c s).2]) ∧ Below W.heap.size W w') := fun s W => Cmd.refGet_any c s W
  have NA : Hid (∀ (n : Int), I64 n → ∀ (W : World), Calls Tryz.prog 85 #[.int .i64 n] W fun e w' => e = .returned (.string (bs (itoa n))) ∧ Below W.heap.size W w') := fun n hn W => Rep.number_any n ⟨hn.1, hn.2⟩ W
  have CL : Hid (∀ (a : Option Addr) (k : Nat) (l : List Stk), l.length ≤ 100 → Snum l → ∀ W, Stks W a l → Calls Tryz.prog 86 #[.slice a l.length k] W fun e w' => e = .returned (.string (bs (listT l))) ∧ Below W.heap.size W w') := fun a k l h1 h2 W h => refList_any a k l l.length rfl h1 h2 W h
  clear hl hc
  rcases chkV_01 c with h0 | h1
  · have HV : Hid (lineV c = (lineT c, 0)) := by show _ = _; unfold lineV; rw [if_pos h0]
    rw [HV.out]
    rw [h0] at CK
    clear h0 HV
    go_enter Tryz.func39, Tryz.ntmps39
    go_upto_region 1 with fail
    apply wp_region_lit
    refine load_cmd rfl (.tmp 1) rfl w.heap.size rfl c HST.out ?_
    obtain ⟨m, hm⟩ : ∃ m, Hid ((fn c.kind).length = m) := ⟨_, rfl⟩
    have HFI : Hid ((fi c.kind).length = m) := by show _ = _; have := hm.out; unfold fn at this; rwa [List.length_map] at this
    have hm1 : m ≤ 11 := by rw [← HFI.out]; exact fi_len c.kind
    have HS0 : Hid (nameOf c.kind = bs (lineP c 0)) := by show _ = _; rw [lineP_zero]; exact (Lib.mk_data _).symm
    go_wp2_with (first
      | (go_at_call 82; (with_reducible refine (CK.out _).mono ?_); rintro e w1 ⟨rfl, hb1⟩; have HB1 := Lib.hid hb1; clear hb1; have HS1 := Lib.hid (HST.out.below HB1.out); have HW1 := Lib.hid (below2 (below_al (Below.refl w.heap.size w) _) HB1.out); obtain ⟨b0, -, -⟩ := HS1.out.three)
      | (go_at_call 83; (with_reducible refine (CN.out _).mono ?_); rintro e w2 ⟨rfl, hb2⟩; rw [HS0.out]; have HB2 := Lib.hid hb2; clear hb2; have HS2 := Lib.hid (HS1.out.below HB2.out); have HW2 := Lib.hid (below2 HW1.out HB2.out); obtain ⟨p0, -, -⟩ := HS2.out.three)
      | (go_at_call 59; (with_reducible refine (CF.out _).mono ?_); rintro e w3 ⟨a3, k3, rfl, HF3, HB3, -⟩; rw [hm.out]; have HS3 := Lib.hid (HS2.out.below HB3.out); have HW3 := Lib.hid (below2 HW2.out HB3.out)))
    go_loopw [5, 7] (fun s i wr => ∃ k : Nat, k ≤ m ∧ i = .int .i64 k ∧ s = .string (bs (lineP c k)) ∧ Hid (Below w3.heap.size w3 wr)) (fun _ i _ => m - (intOf i).toNat)
    case atStart => exact ⟨0, by omega, rfl, rfl, Below.refl _ _⟩
    case round =>
      obtain ⟨k, hk, rfl, rfl, hb⟩ := hrel
      by_cases hlt : k < m
      · obtain ⟨b2, off2, rfl, hbl2, hc2⟩ := (Strs.below HF3.out hb.out) k (by rw [hm.out]; exact hlt)
        obtain ⟨e1, hi19⟩ := fn_get c.kind k (by rw [HFI.out]; exact hlt)
        rw [e1] at hc2
        have hI0 := HC.out.num _ hi19
        have hI : I64 (c.num ((fi c.kind).getD k 0)) := ⟨hI0.1, hI0.2⟩
        have HG : Hid (getV c (nm ((fi c.kind).getD k 0)) = (c.num ((fi c.kind).getD k 0), true)) := by show _ = _; unfold getV; rw [place_nm hi19]
        have HX := Lib.hid (lineP_next c k (by rw [HFI.out]; exact hlt))
        have hlen := lineP_len c HC.out k
        have hnl := (names_bytes _ hi19).2.2.1
        clear e1 hI0
        have hlt1 : (k : Int) < (m : Int) := by omega
        have d1 : decide ((k : Int) < (m : Int)) = true := decide_eq_true hlt1
        have hk0 : (0 : Int) ≤ k := by omega
        have HNM : Hid (nm ((fi c.kind).getD k 0) = bs (names.getD ((fi c.kind).getD k 0) [])) := rfl
        generalize (fi c.kind).getD k 0 = I at *
        generalize names.getD I [] = NMS at *
        generalize lineP c k = S at *
        go_upto_region 9 with fail
        have hH0 : Stand wr.drew w.heap.size c ∧ wr.drew.cell? ⟨b2, off2 + k, none⟩ = some (.string (nm I)) := ⟨HS3.out.below (below_dN hb.out 1), hc2⟩
        have hbl' : b2 < wr.drew.heap.size := hbl2
        refine Ord.wp_region_U (fun W' => Stand W' w.heap.size c ∧ W'.cell? ⟨b2, off2 + k, none⟩ = some (.string (nm I))) [] (by kernel_rfl) ?_
        have hHeld := hH0
        refine Ord.wpAnyU_take (i := 0) (v := .agg c.val) rfl (by kernel_rfl) (by kernel_rfl) (by kernel_rfl) (by kernel_rfl) (by kernel_rfl) (by kernel_rfl) (by kernel_rfl) (fun _ _ _ h => h) (Or.inl ⟨by rfl, ?_⟩) hHeld ?_
        · exact fun W2 hS2 => run_load_cmd (.tmp 1) rfl rfl hS2.1
        try simp only [Act.put, List.setIfInBounds_toArray, List.set_cons_zero, List.set_cons_succ]
        refine Ord.wpAnyU_take (i := 1) (v := ?_) rfl (by kernel_rfl) (by kernel_rfl) (by kernel_rfl) (by kernel_rfl) (by kernel_rfl) (by kernel_rfl) (by kernel_rfl) (fun _ _ _ h => h) (Or.inl ⟨by rfl, ?_⟩) hHeld ?_
        rotate_left
        · intro w hSw; (try dsimp only at hSw); go_simp; (try with_reducible rfl)
        try simp only [Act.put, List.setIfInBounds_toArray, List.set_cons_zero, List.set_cons_succ]
        refine Ord.wpAnyU_take (i := 2) (v := ?_) rfl (by kernel_rfl) (by kernel_rfl) (by kernel_rfl) (by kernel_rfl) (by kernel_rfl) (by kernel_rfl) (by kernel_rfl) (fun _ _ _ h => h) (Or.inl ⟨by rfl, ?_⟩) hHeld ?_
        rotate_left
        · intro w hSw; (try dsimp only at hSw); go_simp; (try with_reducible rfl)
        try simp only [Act.put, List.setIfInBounds_toArray, List.set_cons_zero, List.set_cons_succ]
        refine Ord.wpAnyU_take (i := 3) (v := ?_) rfl (by kernel_rfl) (by kernel_rfl) (by kernel_rfl) (by kernel_rfl) (by kernel_rfl) (by kernel_rfl) (by kernel_rfl) (fun _ _ _ h => h) (Or.inl ⟨by rfl, ?_⟩) hHeld ?_
        rotate_left
        · intro w hSw; (try dsimp only at hSw); go_simp; (try with_reducible rfl)
        try simp only [Act.put, List.setIfInBounds_toArray, List.set_cons_zero, List.set_cons_succ]
        refine Ord.wpAnyU_take (i := 4) (v := ?_) rfl (by kernel_rfl) (by kernel_rfl) (by kernel_rfl) (by kernel_rfl) (by kernel_rfl) (by kernel_rfl) (by kernel_rfl) (fun _ _ _ h => h) (Or.inl ⟨by rfl, ?_⟩) hHeld ?_
        rotate_left
        · intro w hSw; (try dsimp only at hSw); go_simp; (try with_reducible rfl)
        try simp only [Act.put, List.setIfInBounds_toArray, List.set_cons_zero, List.set_cons_succ]
        refine Ord.wpAnyU_one (i := 5) (by kernel_rfl) rfl (fun K hK => ?_)
        go_simp
        go_wp2_with ((go_at_call 84; (with_reducible refine (CG.out (nm I) _).mono ?_); rintro e w4 ⟨rfl, hb4⟩; rw [HG.out]; have HB4 := Lib.hid hb4; clear hb4; have hs4 : _ ∧ _ := ⟨hH0.1.below HB4.out, (HB4.out.cell (p := ⟨b2, off2 + k, none⟩) hbl').trans hH0.2⟩))
        refine hK.out _ _ (fun _ => hs4) ?_
        clear hK K
        try simp only [Act.put, List.setIfInBounds_toArray, List.set_cons_zero, List.set_cons_succ]
        refine Ord.wpAnyU_one (i := 6) (by kernel_rfl) rfl (fun K hK => ?_)
        go_simp
        refine hK.out _ _ (fun _ => hs4) ?_
        clear hK K
        try simp only [Act.put, List.setIfInBounds_toArray, List.set_cons_zero, List.set_cons_succ]
        have hHeld := hs4
        refine Ord.wpAnyU_take (i := 7) (v := ?_) rfl (by kernel_rfl) (by kernel_rfl) (by kernel_rfl) (by kernel_rfl) (by kernel_rfl) (by kernel_rfl) (by kernel_rfl) (fun _ _ _ h => h) (Or.inl ⟨by rfl, ?_⟩) hHeld ?_
        rotate_left
        · intro w hSw; (try dsimp only at hSw); go_simp; (try with_reducible rfl)
        try simp only [Act.put, List.setIfInBounds_toArray, List.set_cons_zero, List.set_cons_succ]
        have hHeld := hs4
        refine Ord.wpAnyU_take (i := 8) (v := ?_) rfl (by kernel_rfl) (by kernel_rfl) (by kernel_rfl) (by kernel_rfl) (by kernel_rfl) (by kernel_rfl) (by kernel_rfl) (fun _ _ _ h => h) (Or.inl ⟨by rfl, ?_⟩) hHeld ?_
        rotate_left
        · intro w hSw; (try dsimp only at hSw); go_simp; (try with_reducible rfl)
        try simp only [Act.put, List.setIfInBounds_toArray, List.set_cons_zero, List.set_cons_succ]
        refine Ord.wpAnyU_one (i := 9) (by kernel_rfl) rfl (fun K hK => ?_)
        go_simp
        refine hK.out _ _ (fun _ => hs4) ?_
        clear hK K
        try simp only [Act.put, List.setIfInBounds_toArray, List.set_cons_zero, List.set_cons_succ]
        refine Ord.wpAnyU_one (i := 10) (by kernel_rfl) rfl (fun K hK => ?_)
        go_simp
        refine hK.out _ _ (fun _ => hs4) ?_
        clear hK K
        try simp only [Act.put, List.setIfInBounds_toArray, List.set_cons_zero, List.set_cons_succ]
        refine Ord.wpAnyU_done (by kernel_rfl) ?_ _
        have HB4w : Hid (Below w3.heap.size w3 w4) := below2 (below_dN hb.out 1) HB4.out
        by_cases hz : c.num I = 0
        · have HE : Hid (lineP c (k + 1) = S) := by show _ = _; rw [HX.out, if_pos hz]
          have gz : (c.num I == 0) = true := by simpa using hz
          go_wp2
          go_roundw
          case rel => exact ⟨k + 1, by omega, by go_num, by rw [HE.out], HB4w⟩
          case measure => simp [intOf]; omega
        · have HE : Hid (lineP c (k + 1) = S ++ 32 :: (NMS ++ 61 :: itoa (c.num I))) := by show _ = _; rw [HX.out, if_neg hz]
          have gz : (c.num I == 0) = false := by simpa using hz
          have hx := itoa_len hI
          have NX := Lib.hid (NA.out _ hI)
          have hbl4 : b2 < w4.heap.size := Nat.lt_of_lt_of_le hbl' HB4.out.size
          have hc4 := hs4.2
          rw [HNM.out] at hc4
          clear hz hH0 hHeld hs4 HX
          generalize c.num I = X at *
          have z1 : ¬ 9223372036854775807 < (bs S).size + 1 := by rw [Pen.bs_size]; omega
          have z2 : ¬ 9223372036854775807 < (bs S).size + 1 + (bs NMS).size := by rw [Pen.bs_size, Pen.bs_size]; omega
          have z3 : ¬ 9223372036854775807 < (bs S).size + 1 + (bs NMS).size + 1 := by rw [Pen.bs_size, Pen.bs_size]; omega
          have z4 : ¬ 9223372036854775807 < (bs S).size + 1 + (bs NMS).size + 1 + (bs (itoa X)).size := by rw [Pen.bs_size, Pen.bs_size, Pen.bs_size]; omega
          have FL : Hid (∀ V, Hid (Below w4.heap.size w4 V) → V.cell? ⟨b2, off2 + k, none⟩ = some (.string (bs NMS))) := fun V hV => (hV.out.cell (p := ⟨b2, off2 + k, none⟩) hbl4).trans hc4
          have B0 : Hid (Below w4.heap.size w4 w4.drew) := (Below.refl _ _).drew
          go_upto_region 11 with (fail)
          go_region_held3 (fun V => V.cell? ⟨b2, off2 + k, none⟩ = some (.string (bs NMS))) (first | exact FL.out _ (by with_reducible assumption))
            ((go_at_call 85; (with_reducible refine (NX.out _).mono ?_); rintro e w5 ⟨rfl, hb5⟩; have B5 : Hid (Below w4.heap.size w4 w5) := below2 (Hid.out (by with_reducible assumption)) hb5))
          have EE : Hid (bs S ++ ⟨#[32]⟩ ++ bs NMS ++ ⟨#[61]⟩ ++ bs (itoa X) = bs (lineP c (k + 1))) := by
            show _ = _
            rw [HE.out, show (⟨#[32]⟩ : ByteArray) = bs [32] from rfl, show (⟨#[61]⟩ : ByteArray) = bs [61] from rfl, bs_add, bs_add, bs_add, bs_add]
            simp
          have HBB : Hid (Below w3.heap.size w3 w5) := below2 HB4w.out B5.out
          clear z1 z2 z3 z4 hb5
          go_wp2
          go_roundw
          case rel => exact ⟨k + 1, by omega, by go_num, congrArg Value.string EE.out, HBB⟩
          case measure => simp [intOf]; omega
      · have hke : k = m := by omega
        have n1 : ¬ (k : Int) < (m : Int) := by omega
        have d1 : decide ((k : Int) < (m : Int)) = false := decide_eq_false n1
        subst hke
        have HWr := Lib.hid (HW3.out.trans (hb.out.mono HW3.out.size))
        have HSr := Lib.hid (HS3.out.below hb.out)
        have HLr := Lib.hid (HL.out.below HWr.out)
        have hbw : w.heap.size < wr.heap.size := World.rowIs.lt HSr.out
        obtain ⟨b0', b20, b21⟩ := HSr.out.three
        have LE := Lib.hid (lineT_eq c)
        rw [HFI.out] at LE
        have hlen := lineP_len c HC.out k
        have hg100 := HC.out.few.1
        have hw100 := HC.out.few.2
        have hgl := listT_small c.gives HC.out.gives hg100 c.gives.length
        have hwl := listT_small c.wants HC.out.wants hw100 c.wants.length
        rw [List.take_length] at hgl hwl
        generalize lineP c k = S at *
        obtain ⟨G, hG⟩ : ∃ G, Hid ((if c.gives = [] then ([] : List UInt8) else 32 :: (givesN ++ 61 :: listT c.gives)) = G) := ⟨_, rfl⟩
        obtain ⟨H, hH⟩ : ∃ H, Hid ((if c.wants = [] then ([] : List UInt8) else 32 :: (wantsN ++ 61 :: listT c.wants)) = H) := ⟨_, rfl⟩
        rw [hG.out, hH.out] at LE
        have hGl : G.length ≤ 4300 := by rw [← hG.out]; split <;> simp [givesN]; omega
        have GL := Lib.hid (CL.out c.ga c.gc c.gives hg100 HC.out.gives)
        have GW := Lib.hid (CL.out c.wa c.wc c.wants hw100 HC.out.wants)
        go_upto_if 52 with (fail)
        go_cut [5] (fun v wx => v = .string (bs (S ++ G)) ∧ Hid (Below wr.heap.size wr wx))
        case first =>
          by_cases hg : c.gives = []
          · have g0 : ¬ (0 : Int) < (c.gives.length : Int) := by rw [hg]; decide
            have E0 : Hid (bs S = bs (S ++ G)) := by show _ = _; rw [← hG.out, if_pos hg, List.append_nil]
            clear hg
            go_wp2
            go_meet
            case rel => exact ⟨congrArg Value.string E0.out, Below.refl _ _⟩
          · have g0 : (0 : Int) < (c.gives.length : Int) := by
              have : c.gives.length ≠ 0 := fun e => hg (List.eq_nil_of_length_eq_zero e)
              omega
            have E0 : Hid (bs S ++ ⟨#[32, 103, 105, 118, 101, 115, 61]⟩ ++ bs (listT c.gives) = bs (S ++ G)) := by
              show _ = _
              rw [← hG.out, if_neg hg, show (⟨#[32, 103, 105, 118, 101, 115, 61]⟩ : ByteArray) = bs [32, 103, 105, 118, 101, 115, 61] from rfl, bs_add, bs_add]
              simp [givesN]
            have z1 : ¬ 9223372036854775807 < (bs S).size + 7 := by rw [Pen.bs_size]; omega
            have z2 : ¬ 9223372036854775807 < (bs S).size + 7 + (bs (listT c.gives)).size := by rw [Pen.bs_size, Pen.bs_size]; omega
            clear hg
            go_wp2_with (go_at_call 86; (with_reducible refine (GL.out _ HLr.out.g).mono ?_); rintro e w5 ⟨rfl, hb5⟩; have HB5 := Lib.hid hb5; clear hb5)
            go_meet
            case rel => exact ⟨congrArg Value.string E0.out, HB5⟩
        case rest =>
          obtain ⟨rfl, HBc⟩ := hcut
          have HLc := Lib.hid (HLr.out.below HBc.out)
          have HSc := Lib.hid (HSr.out.below HBc.out)
          have hbc : w.heap.size < wc.heap.size := World.rowIs.lt HSc.out
          obtain ⟨-, -, c21⟩ := HSc.out.three
          clear b0' b20 b21
          obtain ⟨SG, hSG⟩ : ∃ SG, Hid (S ++ G = SG) := ⟨_, rfl⟩
          have hSGl : SG.length ≤ 4700 := by rw [← hSG.out, List.length_append]; omega
          rw [hSG.out] at LE ⊢
          go_upto_if 62 with (fail)
          go_cut [5] (fun v wx => v = .string (bs (SG ++ H)) ∧ Hid (Below wc.heap.size wc wx))
          case first =>
            by_cases hg : c.wants = []
            · have g0 : ¬ (0 : Int) < (c.wants.length : Int) := by rw [hg]; decide
              have E0 : Hid (bs SG = bs (SG ++ H)) := by show _ = _; rw [← hH.out, if_pos hg, List.append_nil]
              clear hg
              go_wp2
              go_meet
              case rel => exact ⟨congrArg Value.string E0.out, Below.refl _ _⟩
            · have g0 : (0 : Int) < (c.wants.length : Int) := by
                have : c.wants.length ≠ 0 := fun e => hg (List.eq_nil_of_length_eq_zero e)
                omega
              have E0 : Hid (bs SG ++ ⟨#[32, 119, 97, 110, 116, 115, 61]⟩ ++ bs (listT c.wants) = bs (SG ++ H)) := by
                show _ = _
                rw [← hH.out, if_neg hg, show (⟨#[32, 119, 97, 110, 116, 115, 61]⟩ : ByteArray) = bs [32, 119, 97, 110, 116, 115, 61] from rfl, bs_add, bs_add]
                simp [wantsN]
              have z1 : ¬ 9223372036854775807 < (bs SG).size + 7 := by rw [Pen.bs_size]; omega
              have z2 : ¬ 9223372036854775807 < (bs SG).size + 7 + (bs (listT c.wants)).size := by rw [Pen.bs_size, Pen.bs_size]; omega
              clear hg
              go_wp2_with (go_at_call 86; (with_reducible refine (GW.out _ HLc.out.w).mono ?_); rintro e w5 ⟨rfl, hb5⟩; have HB5 := Lib.hid hb5; clear hb5)
              go_meet
              case rel => exact ⟨congrArg Value.string E0.out, HB5⟩
          case rest =>
            obtain ⟨rfl, HBd⟩ := hcut
            rename_i wd
            go_wp2
            go_ret2
            exact ⟨by rw [LE.out]; rfl, below2 (below2 HWr.out HBc.out) HBd.out⟩
  · have HV : Hid (lineV c = ([], 1)) := by show _ = _; unfold lineV; rw [if_neg (by rw [h1]; decide)]
    rw [HV.out]
    rw [h1] at CK
    clear h1 HV
    go_enter Tryz.func39, Tryz.ntmps39
    go_upto_region 1 with fail
    apply wp_region_lit
    refine load_cmd rfl (.tmp 1) rfl w.heap.size rfl c HST.out ?_
    go_wp2_with (go_at_call 82; (with_reducible refine (CK.out _).mono ?_); rintro e w1 ⟨rfl, hb1⟩; have HB1 := Lib.hid hb1; clear hb1)
    all_goals go_ret2
    all_goals exact ⟨rfl, below2 (below_al (Below.refl w.heap.size w) _) HB1.out⟩
end Asm
end Go.Proofs.YtlhalhilnkneeaaGreatDoor
end
