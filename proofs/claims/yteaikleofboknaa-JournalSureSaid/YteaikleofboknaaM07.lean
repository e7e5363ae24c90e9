/- Texts put together: FrmW3. -/
import Derived.Test.YteaikleofboknaaM06
import Derived.Test.YteaikleofboknaaM03
import Derived.BigQuiet
import Derived.Deep.QuietTactic
set_option linter.all false
section
set_option maxRecDepth 100000
namespace Go.Proofs.Yteaikleofboknaa
open Go.RowKit
namespace Frm
open Crc (sum sum_any)
open In (strVals Strs)
theorem first_yes (s : ByteArray) (hm : s.size ≤ maxLen) (r : List UInt8) (h : first s.data.toList = some r) (w : World) :
    Calls Try.prog 51 #[.string s] w fun e w' => e = .returned (.tuple #[.string ⟨r.toArray⟩, .bool true]) ∧ Below w.heap.size w w' := by
  have h8 : 8 ≤ s.size := by
    rcases Nat.lt_or_ge s.size 8 with h8 | h8
    · rw [first_short (by simp; omega)] at h; cases h
    · exact h8
  exact (first_long s h8 hm w).mono fun e w' ⟨he, hb⟩ => ⟨by unfold firstOf at he; rw [h] at he; exact he, hb⟩
theorem first_no (s : ByteArray) (hm : s.size ≤ maxLen) (h : first s.data.toList = none) (w : World) :
    Calls Try.prog 51 #[.string s] w fun e w' => (∃ t, e = .returned (.tuple #[.string t, .bool false])) ∧ Below w.heap.size w w' := by
  rcases Nat.lt_or_ge s.size 8 with h8 | h8
  · exact (first_short_walk s h8 w).mono fun e w' ⟨he, hw⟩ => ⟨⟨_, he⟩, by rw [← hw]; exact Below.refl _ _⟩
  · exact (first_long s h8 hm w).mono fun e w' ⟨he, hb⟩ => ⟨by unfold firstOf at he; rw [h] at he; exact he, hb⟩
theorem below_dNq {B : Nat} {a w : World} (h : Below B a w) (n : Nat) : Below B a (w.drewN n) := ⟨h.os, h.tape, h.output, h.size, h.block⟩
def strs (l : List ByteArray) : List (List UInt8) := l.map fun s => s.data.toList
/-- What Scan answers. -/
def ScanPost (w : World) (l : List UInt8) (e : Ending) (w' : World) : Prop :=
  ∃ (v : Value) (outs : List ByteArray), e = .returned (.tuple #[v, .int .i64 ((scan l).2 : Int)]) ∧ strs outs = (scan l).1 ∧ w'.ownsRow w.heap.size 9 1 v outs.length (strVals outs) ∧ Below w.heap.size w w'
/-- So far, and what is left. -/
def At (l : List UInt8) (at_ : Nat) (outs : List ByteArray) : Prop :=
  at_ ≤ l.length ∧ outs.length ≤ at_ ∧ (scan l).1 = strs outs ++ (scan (l.drop at_)).1 ∧ (scan l).2 = at_ + (scan (l.drop at_)).2
theorem At.start (l : List UInt8) : At l 0 [] := ⟨Nat.zero_le _, Nat.zero_le _, by simp [strs], by simp⟩
theorem At.stop {l : List UInt8} {at_ : Nat} {outs : List ByteArray} (h : At l at_ outs) (hf : first (l.drop at_) = none) : strs outs = (scan l).1 ∧ (scan l).2 = at_ := by
  obtain ⟨_, _, h1, h2⟩ := h
  rw [scan_none hf] at h1 h2
  exact ⟨by rw [h1]; simp, by rw [h2]; simp⟩
theorem At.next {l r : List UInt8} {at_ : Nat} {outs : List ByteArray} (h : At l at_ outs) (hf : first (l.drop at_) = some r) : At l (at_ + (8 + r.length)) (outs ++ [⟨r.toArray⟩]) := by
  obtain ⟨h0, hl, h1, h2⟩ := h
  obtain ⟨hs, hle, _⟩ := scan_some hf
  rw [List.length_drop] at hle
  refine ⟨by omega, by simp; omega, ?_, ?_⟩
  · rw [h1, hs, List.drop_drop]; simp [strs]
  · rw [h2, hs, List.drop_drop]; simp only; omega
theorem sinfo : (Try.prog.info? 9).map (fun i => (i.zero, i.size, i.bytes)) = some (some (.string ⟨#[]⟩), 1, 16) := by kernel_rfl
set_option maxHeartbeats 1000000 in
theorem scan_any (s : ByteArray) (hm : s.size ≤ 1000000000) (w : World) :
    Calls Try.prog 24 #[.string s] w (ScanPost w s.data.toList) := by
  obtain ⟨i0, hi, hz0, hz1, hz2⟩ := info_parts sinfo
  go_enter Try.func24, Try.ntmps24
  go_wp2
  go_loopw [4, 5] (fun v i wr => ∃ (k : Nat) (outs : List ByteArray), i = .int .i64 k ∧ Hid (At s.data.toList k outs) ∧ Hid (wr.ownsRow w.heap.size 9 1 v outs.length (strVals outs)) ∧ Hid (Below w.heap.size w wr)) (fun _ i _ => s.size - (intOf i).toNat)
  case atStart => exact ⟨0, [], rfl, At.start _, World.ownsRow_nil _ _ _ _, Below.refl _ _⟩
  case round =>
    obtain ⟨k, outs, rfl, HA, HO, HB⟩ := hrel
    have hk : k ≤ s.size := by have := HA.out.1; simpa using this
    have ho : outs.length ≤ k := HA.out.2.1
    have hX : Hid ((s.extract k s.size).data.toList = s.data.toList.drop k) := by
      show _ = _
      rw [ByteArray.data_extract]
      simp
      rw [List.take_of_length_le (by simp)]
    have hXm : (s.extract k s.size).size ≤ maxLen := by unfold maxLen; simp; omega
    cases hf : first (s.data.toList.drop k) with
    | none =>
      have hf' : first (s.extract k s.size).data.toList = none := by rw [hX.out]; exact hf
      have FN := Lib.hid (first_no _ hXm hf')
      have ST := Lib.hid (HA.out.stop hf)
      clear hf hf' hXm
      go_wp2_with (go_at_call 51; ((with_reducible refine (FN.out _).mono ?_); rintro e w1 ⟨⟨t, rfl⟩, hb1⟩))
      go_ret2
      exact ⟨_, outs, by rw [ST.out.2]; rfl, ST.out.1, Own.own_below HO.out hb1, below2 HB.out hb1⟩
    | some r =>
      have hf' : first (s.extract k s.size).data.toList = some r := by rw [hX.out]; exact hf
      have FY := Lib.hid (first_yes _ hXm r hf')
      have hr : k + (8 + r.length) ≤ s.size := by
        have := (scan_some hf).2.1
        rw [List.length_drop] at this
        simp at this
        omega
      have NX := Lib.hid (HA.out.next hf)
      have hrl : (⟨r.toArray⟩ : ByteArray).size = r.length := by simp [ByteArray.size]
      clear hf hf' hXm
      go_wp2_with (first
        | (go_at_call 51; ((with_reducible refine (FY.out _).mono ?_); rintro e w1 ⟨rfl, hb1⟩))
        | (at_builtin; refine Own.list_one rfl (.tmp 19) (.tmp 21) 31 rfl w.heap.size 9 i0 _ 16 Try.underlying31 hi hz0 hz1 hz2 rfl _ outs.length _ rfl _ _ _ rfl ((Own.own_below HO.out hb1).alloc _) (Own.cell_new _ _ _) rfl ?h1 ?h2 ?h3 ?_; (case h1 => unfold maxLen; omega); (case h2 => omega); (case h3 => have := HB.out.size; have := hb1.size; simp; omega); intro v' w2 hown2 hgrow2))
      have hb2 := (((below2 HB.out hb1).alloc (below2 HB.out hb1).size _)).grown hgrow2 (by have := (below2 HB.out hb1).size; simp; omega) (Own.own_block HO.out (Nat.le_refl _))
      have hown3 : Hid (w2.ownsRow w.heap.size 9 1 v' (outs ++ [(⟨r.toArray⟩ : ByteArray)]).length (strVals (outs ++ [(⟨r.toArray⟩ : ByteArray)]))) := by
        show World.ownsRow _ _ _ _ _ _ _
        simpa [strVals] using hown2
      have HB2 := Lib.hid hb2
      clear hown2 hgrow2 hb2
      go_roundw
      case rel => exact ⟨k + (8 + r.length), outs ++ [⟨r.toArray⟩], by go_num, NX, hown3, HB2⟩
      case measure => simp [intOf]; omega
theorem below_al {w x : World} (h : Below w.heap.size w x) (o : Obj) : Below w.heap.size w (x.alloc o) := h.alloc h.size o
theorem neq_str (a b : ByteArray) : (a.toList == b.toList) = decide (a = b) := by
  rw [ByteArray.toList_eq, ByteArray.toList_eq, Bool.eq_iff_iff]
  simp [ByteArray.ext_iff]
/-- Are lists of texts the same? -/
def same (l m : List ByteArray) : Bool := decide (l = m)
set_option maxHeartbeats 1000000 in
theorem same_any (a b : Option Addr) (cap cap2 : Nat) (l m : List ByteArray) (hl : l.length ≤ maxLen) (hm : m.length ≤ maxLen) (w : World) (ha : Strs w a l) (hb : Strs w b m) :
    Calls Try.prog 19 #[.slice a l.length cap, .slice b m.length cap2] w fun e w' => e = .returned (.bool (same l m)) ∧ Below w.heap.size w w' := by
  unfold maxLen at hl hm
  by_cases hlen : l.length = m.length
  · have hlen1 : ((l.length : Int) != (m.length : Int)) = false := by simp [hlen]
    have HL := Lib.hid hlen
    clear hlen
    go_enter Try.func19, Try.ntmps19
    go_wp2
    go_loopw [5] (fun i wr => ∃ k q : Nat, k ≤ l.length ∧ i = .int .i64 k ∧ wr = w.drewN q ∧ Hid (l.take k = m.take k)) (fun i _ => l.length - (intOf i).toNat)
    case atStart => exact ⟨0, 0, by omega, rfl, rfl, rfl⟩
    case round =>
      obtain ⟨k, q, hk, rfl, rfl, HK⟩ := hrel
      have HLo := HL.out
      have hBW : Hid (Below w.heap.size w (w.drewN q)) := below_dNq (Below.refl _ _) q
      by_cases hlt : k < l.length
      · obtain ⟨b1, off1, rfl, hb1, hc1⟩ := ha k hlt
        obtain ⟨b2, off2, rfl, hb2, hc2⟩ := hb k (by omega)
        have hlt2 : (k : Int) < (m.length : Int) := by omega
        have hlt1 : (k : Int) < (l.length : Int) := by omega
        have e1 : l.take (k + 1) = l.take k ++ [l.getD k ByteArray.empty] := by
          rw [List.take_succ_eq_append_getElem hlt, List.getD_eq_getElem?_getD, List.getElem?_eq_getElem hlt]; rfl
        have e2 : m.take (k + 1) = m.take k ++ [m.getD k ByteArray.empty] := by
          have h2 : k < m.length := by omega
          rw [List.take_succ_eq_append_getElem h2, List.getD_eq_getElem?_getD, List.getElem?_eq_getElem h2]; rfl
        have E1 := Lib.hid e1
        have E2 := Lib.hid e2
        have HLo := Lib.hid HLo
        clear e1 e2 ha hb
        clear HLo
        generalize l.getD k ByteArray.empty = x at *
        generalize m.getD k ByteArray.empty = y at *
        by_cases hxy : x = y
        · have hbeq : (x.toList == y.toList) = true := by rw [neq_str]; simp [hxy]
          have HXY := Lib.hid hxy
          clear hxy
          go_wp2
          go_quiet (fail)
          go_wp2
          go_roundw
          case rel => exact ⟨k + 1, q + nq, by omega, by go_num, rfl, by show List.take _ _ = _; rw [E1.out, E2.out, HK.out, HXY.out]⟩
          case measure => simp [intOf]; omega
        · have hbeq : (x.toList == y.toList) = false := by rw [neq_str]; simp [hxy]
          have hs : Hid (same l m = false) := by
            show same l m = false
            apply decide_eq_false
            intro h
            subst h
            have h3 := E1.out.symm.trans E2.out
            exact hxy (by simpa using List.append_cancel_left h3)
          have HN := Lib.hid hxy
          clear hxy
          go_wp2
          go_quiet (fail)
          go_wp2
          go_ret
          exact ⟨by rw [hs.out]; rfl, below_dNq hBW.out _⟩
      · have hs : Hid (same l m = true) := by
          show same l m = true
          apply decide_eq_true
          have h1 := HK.out
          rw [List.take_of_length_le (by omega), List.take_of_length_le (by omega)] at h1
          exact h1
        have hlt1 : decide ((k : Int) < (l.length : Int)) = false := decide_eq_false (by omega)
        clear ha hb HLo
        go_wp2
        go_ret
        exact ⟨by rw [hs.out]; rfl, below_dNq (Below.refl _ _) _⟩
  · have hlen1 : ((l.length : Int) != (m.length : Int)) = true := by simp; omega
    have hs : Hid (same l m = false) := by
      show same l m = false
      apply decide_eq_false
      intro h
      exact hlen (by rw [h])
    clear hlen ha hb
    go_enter Try.func19, Try.ntmps19
    go_wp2
    go_ret
    exact ⟨by rw [hs.out]; rfl, Below.refl _ _⟩
end Frm
end Go.Proofs.Yteaikleofboknaa
end
