/- The reference's names, words, places and fields; whether strings are the same. -/
import Derived.Test.YtbjlkeneeodghaaDoorCmdK
set_option linter.unusedSimpArgs false
set_option linter.unusedVariables false
namespace Go.Proofs.YtbjlkeneeodghaaDoor
open Go.RowKit Go.Great
namespace Cmd
open Pen (bs)
open In (Strs)
open Rec (below2 below_al below_dN)
theorem beq_yes {a b : ByteArray} (h : a = b) : (a.toList == b.toList) = true := (Lib.bytes_beq_iff a b).2 h
theorem beq_no {a b : ByteArray} (h : a ≠ b) : (a.toList == b.toList) = false := (Lib.bytes_beq_false_iff a b).2 h
/-- All names. -/
def nms : List ByteArray := (List.range 19).map nm
def wds : List ByteArray := (List.range 25).map wd
theorem nms_get (k : Nat) (h : k < 19) : nms.getD k ByteArray.empty = nm k := by simp [nms, List.getD, h]
theorem wds_get (k : Nat) (h : k < 25) : wds.getD k ByteArray.empty = wd k := by simp [wds, List.getD, h]
set_option maxRecDepth 100000 in
theorem refNames_any (w : World) : Calls Tryd.prog 45 #[] w (Gives nms w) := by
  go_enter Tryd.func45, Tryd.ntmps45
  go_wp2
  go_ret
  refine ⟨some ⟨w.heap.size, 0, none⟩, 19, rfl, ?_, below_al (Below.refl _ _) _, fun x hx => by cases hx; exact Nat.le_refl _⟩
  exact strs_new rfl nms _
set_option maxRecDepth 100000 in
theorem refWords_any (w : World) : Calls Tryd.prog 51 #[] w (Gives wds w) := by
  go_enter Tryd.func51, Tryd.ntmps51
  go_wp2
  go_ret
  refine ⟨some ⟨w.heap.size, 0, none⟩, 25, rfl, ?_, below_al (Below.refl _ _) _, fun x hx => by cases hx; exact Nat.le_refl _⟩
  exact strs_new rfl wds _
/-- A place as a number. -/
def plI : Option Nat → Int
  | none => -1
  | some i => i
theorem placeTo_more (s : ByteArray) (k j : Nat) (h : k ≤ j) (i : Nat) (hk : placeTo s k = some i) : placeTo s j = some i := by
  induction j with
  | zero => have : k = 0 := by omega
            subst this; exact hk
  | succ j ih =>
    by_cases e : k = j + 1
    · subst e; exact hk
    · unfold placeTo; rw [ih (by omega)]
theorem kindTo_more (s : ByteArray) (k j : Nat) (h : k ≤ j) (hk : kindTo s k ≠ 0) : kindTo s j = kindTo s k := by
  induction j with
  | zero => have : k = 0 := by omega
            subst this; rfl
  | succ j ih =>
    by_cases e : k = j + 1
    · subst e; rfl
    · rw [kindTo, ih (by omega), if_neg hk]
set_option maxRecDepth 100000 in
theorem place_any (s : ByteArray) (w : World) : Calls Tryd.prog 47 #[.string s] w fun e w' => e = .returned (.int .i64 (plI (place s))) ∧ Below w.heap.size w w' := by
  have CN : Hid (∀ W, Calls Tryd.prog 45 #[] W (Gives nms W)) := fun W => refNames_any W
  have HL : Hid (nms.length = 19) := rfl
  go_enter Tryd.func47, Tryd.ntmps47
  go_wp2_with (go_at_call 45; (with_reducible refine (CN.out _).mono ?_); rintro e w1 ⟨a1, c1, rfl, HS, HB, -⟩; rw [HL.out])
  go_loopw [4] (fun i wr => ∃ k : Nat, k ≤ 19 ∧ i = .int .i64 k ∧ Hid (placeTo s k = none) ∧ Hid (Below w1.heap.size w1 wr)) (fun i _ => 19 - (intOf i).toNat)
  case atStart => exact ⟨0, by omega, rfl, rfl, Below.refl _ _⟩
  case round =>
    obtain ⟨k, hk, rfl, HP, hb⟩ := hrel
    by_cases hlt : k < 19
    · obtain ⟨b, off, rfl, hbl, hc⟩ := (Strs.below HS.out hb.out) k (by rw [HL.out]; exact hlt)
      rw [nms_get k hlt] at hc
      have hlt1 : (k : Int) < 19 := by omega
      have hk0 : (0 : Int) ≤ k := by omega
      have HN : Hid (placeTo s (k + 1) = if nm k = s then some k else none) := by show _ = _; unfold placeTo; rw [HP.out]
      by_cases he : nm k = s
      · have q := beq_yes he
        have HR : Hid (plI (place s) = (k : Int)) := by
          show _ = _
          unfold place
          rw [placeTo_more s (k + 1) 19 (by omega) k (by rw [HN.out, if_pos he])]
          rfl
        generalize nm k = X at *
        clear he HN
        go_wp2
        go_ret
        exact ⟨by rw [HR.out]; rfl, below2 HB.out hb.out⟩
      · have q := beq_no he
        have HQ : Hid (placeTo s (k + 1) = none) := by show _ = _; rw [HN.out, if_neg he]
        generalize nm k = X at *
        clear he HN
        go_wp2
        go_roundw
        case rel => exact ⟨k + 1, by omega, by go_num, HQ, hb⟩
        case measure => simp [intOf]; omega
    · have hke : k = 19 := by omega
      rw [hke] at HP
      have HR : Hid (plI (place s) = -1) := by show plI (placeTo s 19) = -1; rw [HP.out]; rfl
      have n1 : ¬ (k : Int) < 19 := by omega
      clear hke
      go_wp2
      go_ret
      exact ⟨by rw [HR.out]; rfl, below2 HB.out hb.out⟩
/-- Is a string among strings? -/
def isIn (l : List ByteArray) (s : ByteArray) : Bool := l.any fun x => decide (x = s)
theorem isIn_iff (l : List ByteArray) (s : ByteArray) : isIn l s = true ↔ s ∈ l := by
  unfold isIn
  rw [List.any_eq_true]
  constructor
  · rintro ⟨x, hx, h⟩
    rw [← of_decide_eq_true h]
    exact hx
  · exact fun h => ⟨s, h, decide_eq_true rfl⟩
set_option maxRecDepth 100000 in
theorem in_any (a : Option Addr) (c : Nat) (l : List ByteArray) (n : Nat) (hn : l.length = n) (hl : n ≤ 100) (s : ByteArray) (w : World) (ha : Strs w a l) :
    Calls Tryd.prog 46 #[.slice a n c, .string s] w fun e w' => e = .returned (.bool (isIn l s)) ∧ Below w.heap.size w w' := by
  have HA := Lib.hid ha
  have HL := Lib.hid hn
  clear ha hn
  go_enter Tryd.func46, Tryd.ntmps46
  go_wp2
  go_loopw [5] (fun i wr => ∃ k : Nat, k ≤ n ∧ i = .int .i64 k ∧ Hid (∀ j, j < k → l.getD j ByteArray.empty ≠ s) ∧ Hid (Below w.heap.size w wr)) (fun i _ => n - (intOf i).toNat)
  case atStart => exact ⟨0, by omega, rfl, fun j hj => by omega, Below.refl _ _⟩
  case round =>
    obtain ⟨k, hk, rfl, HP, hb⟩ := hrel
    by_cases hlt : k < n
    · obtain ⟨b, off, rfl, hbl, hc⟩ := (Strs.below HA.out hb.out) k (by rw [HL.out]; exact hlt)
      have hlt1 : (k : Int) < (n : Int) := by omega
      have hk0 : (0 : Int) ≤ k := by omega
      by_cases he : l.getD k ByteArray.empty = s
      · have q := beq_yes he
        have HR : Hid (isIn l s = true) := by
          show _ = _
          refine (isIn_iff l s).2 ?_
          rw [← he, List.getD_eq_getElem?_getD, List.getElem?_eq_getElem (by rw [HL.out]; exact hlt)]
          exact List.getElem_mem _
        generalize l.getD k ByteArray.empty = X at *
        clear he
        go_wp2
        go_ret
        exact ⟨by rw [HR.out]; rfl, hb.out⟩
      · have q := beq_no he
        have HQ : Hid (∀ j, j < k + 1 → l.getD j ByteArray.empty ≠ s) := fun j hj => by
          by_cases e : j = k
          · subst e; exact he
          · exact HP.out j (by omega)
        generalize l.getD k ByteArray.empty = X at *
        clear he
        go_wp2
        go_roundw
        case rel => exact ⟨k + 1, by omega, by go_num, HQ, hb⟩
        case measure => simp [intOf]; omega
    · have hke : k = n := by omega
      rw [hke] at HP
      have HR : Hid (isIn l s = false) := by
        show _ = _
        refine Bool.eq_false_iff.2 fun ht => ?_
        have hm := (isIn_iff l s).1 ht
        obtain ⟨j, hj, e⟩ := List.getElem_of_mem hm
        refine HP.out j (by rw [← HL.out]; exact hj) ?_
        rw [List.getD_eq_getElem?_getD, List.getElem?_eq_getElem hj]
        exact e
      have n1 : ¬ (k : Int) < (n : Int) := by omega
      clear hke
      go_wp2
      go_ret
      exact ⟨by rw [HR.out]; rfl, hb.out⟩
set_option maxRecDepth 100000 in
theorem refKind_any (s : ByteArray) (w : World) : Calls Tryd.prog 26 #[.string s] w fun e w' => e = .returned (.int .i64 (kindOf s)) ∧ Below w.heap.size w w' := by
  have CN : Hid (∀ W, Calls Tryd.prog 51 #[] W (Gives wds W)) := fun W => refWords_any W
  have HL : Hid (wds.length = 25) := rfl
  go_enter Tryd.func26, Tryd.ntmps26
  go_wp2_with (go_at_call 51; (with_reducible refine (CN.out _).mono ?_); rintro e w1 ⟨a1, c1, rfl, HS, HB, -⟩; rw [HL.out])
  go_loopw [4] (fun i wr => ∃ k : Nat, k ≤ 25 ∧ i = .int .i64 k ∧ Hid (kindTo s k = 0) ∧ Hid (Below w1.heap.size w1 wr)) (fun i _ => 25 - (intOf i).toNat)
  case atStart => exact ⟨0, by omega, rfl, rfl, Below.refl _ _⟩
  case round =>
    obtain ⟨k, hk, rfl, HP, hb⟩ := hrel
    by_cases hlt : k < 25
    · obtain ⟨b, off, rfl, hbl, hc⟩ := (Strs.below HS.out hb.out) k (by rw [HL.out]; exact hlt)
      rw [wds_get k hlt] at hc
      have hlt1 : (k : Int) < 25 := by omega
      have hk0 : (0 : Int) ≤ k := by omega
      have HN : Hid (kindTo s (k + 1) = if wd k = s then (k : Int) + 1 else 0) := by show _ = _; unfold kindTo; rw [if_pos HP.out]
      by_cases he : wd k = s
      · have q := beq_yes he
        have HR : Hid (kindOf s = (k : Int) + 1) := by
          show _ = _
          unfold kindOf
          rw [kindTo_more s (k + 1) 25 (by omega) (by rw [HN.out, if_pos he]; omega), HN.out, if_pos he]
        have e1 : wrap64 ((k : Int) + 1) = (k : Int) + 1 := by unfold wrap64; omega
        generalize wd k = X at *
        clear he HN
        go_wp2
        go_ret
        exact ⟨by rw [HR.out]; first | rfl | (show Ending.returned (.int .i64 (wrap64 _)) = _; rw [e1]), below2 HB.out hb.out⟩
      · have q := beq_no he
        have HQ : Hid (kindTo s (k + 1) = 0) := by show _ = _; rw [HN.out, if_neg he]
        generalize wd k = X at *
        clear he HN
        go_wp2
        go_roundw
        case rel => exact ⟨k + 1, by omega, by go_num, HQ, hb⟩
        case measure => simp [intOf]; omega
    · have hke : k = 25 := by omega
      rw [hke] at HP
      have HR : Hid (kindOf s = 0) := HP.out
      have n1 : ¬ (k : Int) < 25 := by omega
      clear hke
      go_wp2
      go_ret
      exact ⟨by rw [HR.out]; rfl, below2 HB.out hb.out⟩
set_option maxRecDepth 100000 in
theorem kind_any (s : ByteArray) (w : World) : Calls Tryd.prog 25 #[.string s] w fun e w' => e = .returned (.int .i64 (kindOf s)) ∧ Below w.heap.size w w' := by
  have CK : Hid (∀ w, Calls Tryd.prog 50 #[] w fun e w' => e = .returned (.agg KV) ∧ Below w.heap.size w w') := fun w => kinds_any w
  have HV : Hid (∀ (n : Nat), n < 25 → ∀ w : World, Sem.run Tryd.prog (Instr.index 73 (.agg KV) (.int .i64 (n : Int))) w = Result.ok (Value.agg #[.string (wd n), .string (tx n)]) w) := fun n hn w => kv_at n hn w
  generalize KV = T at *
  go_enter Tryd.func25, Tryd.ntmps25
  go_wp2_with (go_at_call 50; (with_reducible refine (CK.out _).mono ?_); rintro e w1 ⟨rfl, hb1⟩; have HB := Lib.hid hb1; clear hb1)
  go_loopw [6] (fun i wr => ∃ k : Nat, k ≤ 25 ∧ i = .int .i64 k ∧ Hid (kindTo s k = 0) ∧ Hid (Below w1.heap.size w1 wr)) (fun i _ => 25 - (intOf i).toNat)
  case atStart => exact ⟨0, by omega, rfl, rfl, Below.refl _ _⟩
  case round =>
    obtain ⟨k, hk, rfl, HP, hb⟩ := hrel
    by_cases hlt : k < 25
    · have hv := HV.out k hlt
      have hlt1 : (k : Int) < 25 := by omega
      have hk0 : (0 : Int) ≤ k := by omega
      have HN : Hid (kindTo s (k + 1) = if wd k = s then (k : Int) + 1 else 0) := by show _ = _; unfold kindTo; rw [if_pos HP.out]
      by_cases he : wd k = s
      · have q := beq_yes he
        have HR : Hid (kindOf s = (k : Int) + 1) := by
          show _ = _
          unfold kindOf
          rw [kindTo_more s (k + 1) 25 (by omega) (by rw [HN.out, if_pos he]; omega), HN.out, if_pos he]
        have e1 : wrap64 ((k : Int) + 1) = (k : Int) + 1 := by unfold wrap64; omega
        generalize wd k = X at *
        generalize tx k = Y at *
        clear he HN
        go_wp2
        go_ret
        exact ⟨by rw [HR.out]; first | rfl | (show Ending.returned (.int .i64 (wrap64 _)) = _; rw [e1]), below_al (below2 HB.out hb.out) _⟩
      · have q := beq_no he
        have HQ : Hid (kindTo s (k + 1) = 0) := by show _ = _; rw [HN.out, if_neg he]
        generalize wd k = X at *
        generalize tx k = Y at *
        clear he HN
        go_wp2
        go_roundw
        case rel => exact ⟨k + 1, by omega, by go_num, HQ, below_al hb.out _⟩
        case measure => simp [intOf]; omega
    · have hke : k = 25 := by omega
      rw [hke] at HP
      have HR : Hid (kindOf s = 0) := HP.out
      have n1 : ¬ (k : Int) < 25 := by omega
      clear hke
      go_wp2
      go_ret
      exact ⟨by rw [HR.out]; rfl, below2 HB.out hb.out⟩
theorem ext_strs (l m : List ByteArray) (h : l.length = m.length) (hg : ∀ j, j < l.length → l.getD j ByteArray.empty = m.getD j ByteArray.empty) : l = m := by
  apply List.ext_getElem h
  intro j h1 h2
  have := hg j h1
  rwa [List.getD_eq_getElem?_getD, List.getD_eq_getElem?_getD, List.getElem?_eq_getElem h1, List.getElem?_eq_getElem h2] at this
set_option maxRecDepth 100000 in
/-- The same strings are the same. -/
theorem sameWords_any (a b : Option Addr) (c d : Nat) (l : List ByteArray) (n : Nat) (hn : l.length = n) (hl : n ≤ 100) (w : World) (ha : Strs w a l) (hb : Strs w b l) :
    Calls Tryd.prog 20 #[.slice a n c, .slice b n d] w fun e w' => e = .returned (.bool true) ∧ Below w.heap.size w w' := by
  have HA := Lib.hid ha
  have HB := Lib.hid hb
  have HL := Lib.hid hn
  clear ha hb hn
  go_enter Tryd.func20, Tryd.ntmps20
  go_wp2
  go_loopw [5] (fun i wr => ∃ k : Nat, k ≤ n ∧ i = .int .i64 k ∧ Hid (Below w.heap.size w wr)) (fun i _ => n - (intOf i).toNat)
  case atStart => exact ⟨0, by omega, rfl, Below.refl _ _⟩
  case round =>
    obtain ⟨k, hk, rfl, hb⟩ := hrel
    by_cases hlt : k < n
    · obtain ⟨b1, off1, rfl, hbl1, hc1⟩ := (Strs.below HA.out hb.out) k (by rw [HL.out]; exact hlt)
      obtain ⟨b2, off2, rfl, hbl2, hc2⟩ := (Strs.below HB.out hb.out) k (by rw [HL.out]; exact hlt)
      have hlt1 : (k : Int) < (n : Int) := by omega
      have d1 : decide ((k : Int) < (n : Int)) = true := decide_eq_true hlt1
      have hk0 : (0 : Int) ≤ k := by omega
      generalize l.getD k ByteArray.empty = X at *
      have q := beq_yes (rfl : X = X)
      go_wp2
      go_quiet (fail)
      go_wp2
      go_roundw
      case rel => exact ⟨k + 1, by omega, by go_num, below_dN hb.out _⟩
      case measure => simp [intOf]; omega
    · have n1 : ¬ (k : Int) < (n : Int) := by omega
      have d1 : decide ((k : Int) < (n : Int)) = false := decide_eq_false n1
      go_wp2
      go_ret
      exact ⟨rfl, hb.out⟩
end Cmd
end Go.Proofs.YtbjlkeneeodghaaDoor
