/- The walks of the statements on records. -/
import Derived.Test.YtjppoicjbmfhiaaFrmA
import Derived.OpenShut
namespace Go.Proofs.Ytjppoicjbmfhiaa
open Go.RowKit
namespace Frm
open Crc (few few_any)
open In (strVals Strs IsStrs)
def putS (s : ByteArray) : ByteArray := if fits s.size then ⟨(put s.data.toList).toArray⟩ else ⟨#[]⟩
def putE (s : ByteArray) : Int := if fits s.size then 0 else 1
def allS (l : List ByteArray) : ByteArray := if oks l then ⟨(cats l).toArray⟩ else ⟨#[]⟩
def allE (l : List ByteArray) : Int := if oks l then 0 else 1
theorem put_any (s : ByteArray) (hm : s.size ≤ maxLen) (w : World) :
    Calls Try.prog 9 #[.string s] w fun e w' => e = .returned (.tuple #[.string (putS s), .int .i64 (putE s)]) ∧ Below w.heap.size w w' := by
  cases h : fits s.size
  · have e1 : putS s = ⟨#[]⟩ := by unfold putS; rw [h]; rfl
    have e2 : putE s = 1 := by unfold putE; rw [h]; rfl
    rw [e1, e2]; exact put_no s hm h w
  · have e1 : putS s = ⟨(put s.data.toList).toArray⟩ := by unfold putS; rw [h]; rfl
    have e2 : putE s = 0 := by unfold putE; rw [h]; rfl
    rw [e1, e2]; exact put_yes s h w
theorem refPut_any (s : ByteArray) (hm : s.size ≤ maxLen) (w : World) :
    Calls Try.prog 10 #[.string s] w fun e w' => e = .returned (.tuple #[.string (putS s), .int .i64 (putE s)]) ∧ Below w.heap.size w w' := by
  cases h : fits s.size
  · have e1 : putS s = ⟨#[]⟩ := by unfold putS; rw [h]; rfl
    have e2 : putE s = 1 := by unfold putE; rw [h]; rfl
    rw [e1, e2]; exact (refPut_no s hm h w).mono fun e w' ⟨a, b⟩ => ⟨a, by rw [← b]; exact Below.refl _ _⟩
  · have e1 : putS s = ⟨(put s.data.toList).toArray⟩ := by unfold putS; rw [h]; rfl
    have e2 : putE s = 0 := by unfold putE; rw [h]; rfl
    rw [e1, e2]; exact refPut_yes s h w
theorem all_any (a : Option Addr) (cap : Nat) (l : List ByteArray) (hl : l.length ≤ 1000000) (w : World) (ha : Strs w a l) (hsz : ∀ s ∈ l, s.size ≤ maxLen) :
    Calls Try.prog 11 #[.slice a l.length cap] w fun e w' => e = .returned (.tuple #[.string (allS l), .int .i64 (allE l)]) ∧ Below w.heap.size w w' := by
  cases h : oks l
  · have e1 : allS l = ⟨#[]⟩ := by unfold allS; rw [h]; rfl
    have e2 : allE l = 1 := by unfold allE; rw [h]; rfl
    rw [e1, e2]; exact (all_no a cap l hl h w ha hsz).mono fun e w' ⟨a, b⟩ => ⟨a, by rw [← b]; exact Below.refl _ _⟩
  · have e1 : allS l = ⟨(cats l).toArray⟩ := by unfold allS; rw [h]; rfl
    have e2 : allE l = 0 := by unfold allE; rw [h]; rfl
    rw [e1, e2]; exact all_yes a cap l hl h w ha
theorem refAll_any (a : Option Addr) (cap : Nat) (l : List ByteArray) (hl : l.length ≤ 1000000) (w : World) (ha : Strs w a l) (hsz : ∀ s ∈ l, s.size ≤ maxLen) :
    Calls Try.prog 12 #[.slice a l.length cap] w fun e w' => e = .returned (.tuple #[.string (allS l), .int .i64 (allE l)]) ∧ Below w.heap.size w w' := by
  cases h : oks l
  · have e1 : allS l = ⟨#[]⟩ := by unfold allS; rw [h]; rfl
    have e2 : allE l = 1 := by unfold allE; rw [h]; rfl
    rw [e1, e2]; exact refAll_no a cap l hl h w ha hsz
  · have e1 : allS l = ⟨(cats l).toArray⟩ := by unfold allS; rw [h]; rfl
    have e2 : allE l = 0 := by unfold allE; rw [h]; rfl
    rw [e1, e2]; exact refAll_yes a cap l hl h w ha
set_option maxHeartbeats 1000000 in
theorem framePuts_walk (w : World) (s : ByteArray) (hs : s.size ≤ maxLen) (v : Value) (l : List ByteArray) (hw : IsStrs w v l) (n : Int) (hn : (Lit.int .i64 n).wf = true) :
    Calls Try.prog 3 #[.string s, v, .int .i64 n] w fun e w' => e = .returned (.bool true) ∧ Below w.heap.size w w' := by
  obtain ⟨a, cap, rfl, hlen, ha, hsz, _⟩ := hw
  have hn1 := (bounds_i64 hn).2
  have HS := Lib.hid hs
  unfold maxLen at hs
  clear hn
  by_cases h1 : 8192 < s.size
  · go_enter Try.func3, Try.ntmps3
    go_wp2_with (go_at_call 8; ((with_reducible refine (awake_any _).mono ?_); rintro e w1 ⟨rfl, hb1⟩))
    go_ret
    exact ⟨rfl, hb1⟩
  have h1' : decide (8192 < (s.size : Int)) = false := decide_eq_false (by omega)
  have FA := few_any a cap l 12 512 hlen
  cases hfew : few l 12 512
  · rw [hfew] at FA
    have FA := Lib.hid FA
    go_enter Try.func3, Try.ntmps3
    go_wp2_with (first
      | (go_at_call 7; ((with_reducible refine (FA.out _ ha hsz (by decide)).mono ?_); rintro e w1 ⟨rfl, rfl⟩))
      | (go_at_call 8; ((with_reducible refine (awake_any _).mono ?_); rintro e w2 ⟨rfl, hb2⟩)))
    go_ret
    exact ⟨rfl, hb2⟩
  · rw [hfew] at FA
    have FA := Lib.hid FA
    have hl : l.length ≤ 1000000 := by have := (of_decide_eq_true hfew).1; omega
    have HA := Lib.hid ha
    have HZ := Lib.hid hsz
    have HL := Lib.hid hl
    clear ha hsz hlen hl
    go_enter Try.func3, Try.ntmps3
    go_wp2_with (first
      | (go_at_call 7; ((with_reducible refine (FA.out _ HA.out HZ.out (by decide)).mono ?_); rintro e w1 ⟨rfl, rfl⟩))
      | (go_at_call 9; ((with_reducible refine (put_any s HS.out _).mono ?_); rintro e w2 ⟨rfl, hb2⟩))
      | (go_at_call 10; ((with_reducible refine (refPut_any s HS.out _).mono ?_); rintro e w3 ⟨rfl, hb3⟩))
      | (go_at_call 11; ((with_reducible refine (all_any a cap l HL.out _ ((HA.out.below hb2).below hb3) HZ.out).mono ?_); rintro e w4 ⟨rfl, hb4⟩))
      | (go_at_call 12; ((with_reducible refine (refAll_any a cap l HL.out _ (((HA.out.below hb2).below hb3).below hb4) HZ.out).mono ?_); rintro e w5 ⟨rfl, hb5⟩))
      | (go_at_call 13; ((with_reducible refine (size_any n hn1 _).mono ?_); rintro e w6 ⟨rfl, rfl⟩))
      | (go_at_call 14; ((with_reducible refine (refSize_any n hn1 _).mono ?_); rintro e w7 ⟨rfl, rfl⟩))
      | (go_at_call 8; ((with_reducible refine (awake_any _).mono ?_); rintro e w8 ⟨rfl, hb8⟩)))
    go_ret
    exact ⟨rfl, below2 (below2 (below2 (below2 hb2 hb3) hb4) hb5) hb8⟩
theorem strs_inj {a b : List ByteArray} (h : strs a = strs b) : a = b := by
  unfold strs at h
  induction a generalizing b with
  | nil => cases b with
    | nil => rfl
    | cons y b => simp at h
  | cons x a ih => cases b with
    | nil => simp at h
    | cons y b =>
      simp only [List.map_cons, List.cons.injEq] at h
      rw [ih h.2, ByteArray.ext_iff.2 (Array.toList_inj.1 h.1)]
theorem same_refl (l : List ByteArray) : same l l = true := decide_eq_true rfl
/-- What Scan answers, its rows told by their strings. -/
theorem post_strs {w w' : World} {l : List UInt8} {e : Ending} (h : ScanPost w l e w') (outs : List ByteArray) (ho : strs outs = (scan l).1) : (∃ a cap, e = .returned (.tuple #[.slice a outs.length cap, .int .i64 ((scan l).2 : Int)]) ∧ Strs w' a outs) ∧ Below w.heap.size w w' := by
  obtain ⟨v, o2, he, hs, hown, hb⟩ := h
  have := strs_inj (hs.trans ho.symm)
  subst this
  obtain ⟨a, cap, rfl, hst⟩ := In.strs_of_own hown
  exact ⟨⟨a, cap, he, hst⟩, hb⟩
def rows (l : List (List UInt8)) : List ByteArray := l.map fun x => ⟨x.toArray⟩
theorem strs_rows (l : List (List UInt8)) : strs (rows l) = l := by
  induction l with
  | nil => rfl
  | cons x l ih =>
    show x :: strs (rows l) = x :: l
    rw [ih]
theorem scanF_len (f : Nat) (l : List UInt8) : (scanF f l).1.length ≤ f := by
  induction f generalizing l with
  | zero => simp [scanF]
  | succ f ih =>
    rw [scanF]
    cases first l with
    | none => simp
    | some r => simp only [List.length_cons]; have := ih (l.drop (8 + r.length)); omega
theorem scan_s (s : ByteArray) (hm : s.size ≤ 1000000000) (outs : List ByteArray) (ho : strs outs = (scan s.data.toList).1) (w : World) :
    Calls Try.prog 15 #[.string s] w fun e w' => (∃ a cap, e = .returned (.tuple #[.slice a outs.length cap, .int .i64 ((scan s.data.toList).2 : Int)]) ∧ Strs w' a outs) ∧ Below w.heap.size w w' :=
  (scan_any s hm w).mono fun _ _ h => post_strs h outs ho
theorem refScan_s (s : ByteArray) (hm : s.size ≤ 1000000000) (outs : List ByteArray) (ho : strs outs = (scan s.data.toList).1) (w : World) :
    Calls Try.prog 16 #[.string s] w fun e w' => (∃ a cap, e = .returned (.tuple #[.slice a outs.length cap, .int .i64 ((scan s.data.toList).2 : Int)]) ∧ Strs w' a outs) ∧ Below w.heap.size w w' :=
  (refScan_any s hm w).mono fun _ _ h => post_strs h outs ho
theorem same_l (l : List ByteArray) (hl : l.length ≤ maxLen) (a b : Option Addr) (cap cap2 : Nat) (w : World) (ha : Strs w a l) (hb : Strs w b l) :
    Calls Try.prog 17 #[.slice a l.length cap, .slice b l.length cap2] w fun e w' => e = .returned (.bool true) ∧ Below w.heap.size w w' :=
  (same_any a b cap cap2 l l hl hl w ha hb).mono fun e w' ⟨h, hb⟩ => ⟨by rw [h, same_refl], hb⟩
set_option maxHeartbeats 1000000 in
theorem frameScans_walk (s : ByteArray) (hs : s.size ≤ maxLen) (w : World) :
    Calls Try.prog 4 #[.string s] w fun e w' => e = .returned (.bool true) ∧ Below w.heap.size w w' := by
  unfold maxLen at hs
  by_cases h1 : 2048 < s.size
  · go_enter Try.func4, Try.ntmps4
    go_wp2_with (go_at_call 8; ((with_reducible refine (awake_any _).mono ?_); rintro e w1 ⟨rfl, hb1⟩))
    go_ret
    exact ⟨rfl, hb1⟩
  have hm : s.size ≤ 1000000000 := by omega
  have hl : (rows (scan s.data.toList).1).length ≤ maxLen := by
    have := scanF_len s.data.toList.length s.data.toList
    have e : (scan s.data.toList).1.length ≤ s.size := by simpa [scan] using this
    unfold maxLen rows
    rw [List.length_map]
    omega
  have S1 := Lib.hid (scan_s s hm _ (strs_rows _))
  have S2 := Lib.hid (refScan_s s hm _ (strs_rows _))
  have SM := Lib.hid (same_l _ hl)
  clear hl hm
  generalize rows (scan s.data.toList).1 = outs at S1 S2 SM
  generalize (scan s.data.toList).2 = m at S1 S2
  go_enter Try.func4, Try.ntmps4
  go_wp2_with (first
    | (go_at_call 15; ((with_reducible refine (S1.out _).mono ?_); rintro e w1 ⟨⟨a1, cap1, rfl, hst1⟩, hb1⟩))
    | (go_at_call 16; ((with_reducible refine (S2.out _).mono ?_); rintro e w2 ⟨⟨a2, cap2, rfl, hst2⟩, hb2⟩))
    | (go_at_call 17; ((with_reducible refine (SM.out a1 a2 cap1 cap2 _ (hst1.below hb2) hst2).mono ?_); rintro e w3 ⟨rfl, hb3⟩))
    | (go_at_call 8; ((with_reducible refine (awake_any _).mono ?_); rintro e w4 ⟨rfl, hb4⟩)))
  go_ret
  exact ⟨rfl, below2 (below2 (below2 hb1 hb2) hb3) hb4⟩
end Frm
end Go.Proofs.Ytjppoicjbmfhiaa
