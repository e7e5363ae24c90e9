/- Bytes read as numbers: the reference's reader, a number at most so great; whether all was there. -/
import Derived.Test.YtmaddebfoefckaaDoorPenS
namespace Go.Proofs.YtmaddebfoefckaaDoor
open Go.RowKit
namespace Pen
theorem st2_none {S : ByteArray} {p : Nat} {b : Bool} (h : st2 S p b = none) : b = true := by cases b with | true => rfl | false => cases h
theorem st2_some {S : ByteArray} {p : Nat} {b : Bool} {l : List UInt8} (h : st2 S p b = some l) : b = false := by cases b with | false => rfl | true => cases h
theorem rword_any (g : Nat) (S : ByteArray) (p : Nat) (bad : Bool) (hp : p ≤ S.size) (hs : S.size ≤ 1000000000) (w : World) (h : RrAt w g S p bad) :
    Calls Tryd.prog 37 #[.pointer (some ⟨g, 0, none⟩)] w (RrOut g S w .u64 (rdO (st2 S p bad))) := by
  cases bad with
  | true => exact rword_bad g S p hp w h
  | false => exact rword_good g S p hp hs w h
theorem below_dN {a b : World} {k : Nat} (h : Below k a b) (n : Nat) : Below k a (b.drewN n) := ⟨h.os, h.tape, h.output, h.size, h.block⟩
/-- What is made of a word. -/
def capped (most : Int) (r : Int × Option (List UInt8)) : Int × Option (List UInt8) := if (9223372036854775807 : Int) < r.1 ∨ most < r.1 ∨ r.2 = none then (0, none) else r
theorem capped_rdO (most : Int) (o : Option (List UInt8)) : capped most (rdO o) = uintS most o := by
  cases o with
  | none => simp [capped, rdO, uintS]
  | some l =>
    unfold rdO uintS
    simp only
    cases rd l with
    | none => simp [capped]
    | some r =>
      obtain ⟨n, l'⟩ := r
      simp only [capped]
      simp
theorem rdO_low (o : Option (List UInt8)) : 0 ≤ (rdO o).1 := by
  cases o with
  | none => decide
  | some l =>
    unfold rdO
    simp only
    cases rd l with
    | none => decide
    | some r => exact Int.natCast_nonneg _
set_option maxRecDepth 100000 in
set_option maxHeartbeats 2000000 in
theorem rrUint_any (g : Nat) (S : ByteArray) (p : Nat) (bad : Bool) (most : Int) (hp : p ≤ S.size) (hs : S.size ≤ 1000000000) (w : World) (h : RrAt w g S p bad) :
    Calls Tryd.prog 24 #[.pointer (some ⟨g, 0, none⟩), .int .i64 most] w (RrOut g S w .i64 (uintS most (st2 S p bad))) := by
  have CW := Lib.hid (rword_any g S p bad hp hs w h)
  have CF : Hid (∀ (w1 : World) (p1 : Nat) (b1 : Bool), RrAt w1 g S p1 b1 → _) := fun w1 p1 b1 h1 => rfails_any g S p1 b1 w1 h1
  rw [← capped_rdO]
  have n0 := rdO_low (st2 S p bad)
  generalize rdO (st2 S p bad) = r at CW n0
  obtain ⟨NI, o⟩ := r
  simp only at n0
  clear h hp hs
  by_cases hc1 : (9223372036854775807 : Int) < NI
  · have HU : Hid (capped most (NI, o) = (0, none)) := by show _ = _; unfold capped; rw [if_pos (.inl hc1)]
    rw [HU.out]
    have d1 : decide ((9223372036854775807 : Int) < NI) = true := decide_eq_true hc1
    clear hc1 n0
    cases o with
    | none =>
      go_enter Tryd.func24, Tryd.ntmps24
      go_wp2_with (first
        | (go_at_call 37; (with_reducible refine CW.out.mono ?_); rintro e w1 ⟨p', bad', rfl, hst, H1, G1⟩; (obtain rfl : bad' = true := st2_none hst.out.1); have c2 := H1.out.cells.2.2)
        | (go_at_call 38; (with_reducible refine (CF.out _ _ _ H1.out).mono ?_); rintro e w2 ⟨rfl, hrd, hgr⟩; have HRD := Lib.hid hrd; have HGR := Lib.hid (grw_trans G1.out hgr); clear hrd hgr))
      go_ret
      exact ⟨p', true, rfl, ⟨rfl, hst.out.2⟩, HRD, HGR⟩
    | some l =>
      go_enter Tryd.func24, Tryd.ntmps24
      go_wp2_with (first
        | (go_at_call 37; (with_reducible refine CW.out.mono ?_); rintro e w1 ⟨p', bad', rfl, hst, H1, G1⟩; (obtain rfl : bad' = false := st2_some hst.out.1); have c2 := H1.out.cells.2.2)
        | (go_at_call 38; (with_reducible refine (CF.out _ _ _ H1.out).mono ?_); rintro e w2 ⟨rfl, hrd, hgr⟩; have HRD := Lib.hid hrd; have HGR := Lib.hid (grw_trans G1.out hgr); clear hrd hgr))
      go_ret
      exact ⟨p', true, rfl, ⟨rfl, hst.out.2⟩, HRD, HGR⟩
  · have d1 : decide ((9223372036854775807 : Int) < NI) = false := decide_eq_false hc1
    have e1 : wrap64 NI = NI := by unfold wrap64; omega
    have e2 : IntKind.i64.wrap NI = NI := by rw [IntKind.wrap_i64]; omega
    by_cases hc2 : most < NI
    · have HU : Hid (capped most (NI, o) = (0, none)) := by show _ = _; unfold capped; rw [if_pos (.inr (.inl hc2))]
      rw [HU.out]
      have d2 : decide (most < NI) = true := decide_eq_true hc2
      clear hc1 n0 hc2
      cases o with
      | none =>
        go_enter Tryd.func24, Tryd.ntmps24
        go_wp2_with (first
          | (go_at_call 37; (with_reducible refine CW.out.mono ?_); rintro e w1 ⟨p', bad', rfl, hst, H1, G1⟩; (obtain rfl : bad' = true := st2_none hst.out.1); have c2 := H1.out.cells.2.2)
          | (go_at_call 38; (with_reducible refine (CF.out _ _ _ H1.out).mono ?_); rintro e w2 ⟨rfl, hrd, hgr⟩; have HRD := Lib.hid hrd; have HGR := Lib.hid (grw_trans G1.out hgr); clear hrd hgr))
        go_ret
        exact ⟨p', true, rfl, ⟨rfl, hst.out.2⟩, HRD, HGR⟩
      | some l =>
        go_enter Tryd.func24, Tryd.ntmps24
        go_wp2_with (first
          | (go_at_call 37; (with_reducible refine CW.out.mono ?_); rintro e w1 ⟨p', bad', rfl, hst, H1, G1⟩; (obtain rfl : bad' = false := st2_some hst.out.1); have c2 := H1.out.cells.2.2)
          | (go_at_call 38; (with_reducible refine (CF.out _ _ _ H1.out).mono ?_); rintro e w2 ⟨rfl, hrd, hgr⟩; have HRD := Lib.hid hrd; have HGR := Lib.hid (grw_trans G1.out hgr); clear hrd hgr))
        go_ret
        exact ⟨p', true, rfl, ⟨rfl, hst.out.2⟩, HRD, HGR⟩
    · have d2 : decide (most < NI) = false := decide_eq_false hc2
      cases o with
      | none =>
        have HU : Hid (capped most (NI, none) = (0, none)) := by show _ = _; unfold capped; rw [if_pos (.inr (.inr rfl))]
        rw [HU.out]
        clear hc1 n0 hc2
        go_enter Tryd.func24, Tryd.ntmps24
        go_wp2_with (first
          | (go_at_call 37; (with_reducible refine CW.out.mono ?_); rintro e w1 ⟨p', bad', rfl, hst, H1, G1⟩; (obtain rfl : bad' = true := st2_none hst.out.1); have c2 := H1.out.cells.2.2)
          | (go_at_call 38; (with_reducible refine (CF.out _ _ _ H1.out).mono ?_); rintro e w2 ⟨rfl, hrd, hgr⟩; have HRD := Lib.hid hrd; have HGR := Lib.hid (grw_trans G1.out hgr); clear hrd hgr))
        go_ret
        exact ⟨p', true, rfl, ⟨rfl, hst.out.2⟩, HRD, HGR⟩
      | some l =>
        have HU : Hid (capped most (NI, some l) = (NI, some l)) := by show _ = _; unfold capped; rw [if_neg (by rintro (h | h | h); exact hc1 h; exact hc2 h; cases h)]
        rw [HU.out]
        clear hc1 n0 hc2
        go_enter Tryd.func24, Tryd.ntmps24
        go_wp2_with (first
          | (go_at_call 37; (with_reducible refine CW.out.mono ?_); rintro e w1 ⟨p', bad', rfl, hst, H1, G1⟩; (obtain rfl : bad' = false := st2_some hst.out.1); have c2 := H1.out.cells.2.2)
          | (go_at_call 38; (with_reducible refine (CF.out _ _ _ H1.out).mono ?_); rintro e w2 ⟨rfl, hrd, hgr⟩; have HRD := Lib.hid hrd; have HGR := Lib.hid (grw_trans G1.out hgr); clear hrd hgr))
        go_ret
        exact ⟨p', false, rfl, hst, H1, G1⟩
set_option maxRecDepth 100000 in
theorem rrDone_any (g : Nat) (S : ByteArray) (p : Nat) (bad : Bool) (hp : p ≤ S.size) (w : World) (h : RrAt w g S p bad) :
    Calls Tryd.prog 26 #[.pointer (some ⟨g, 0, none⟩)] w fun e w' => e = .returned (.bool (doneS (st2 S p bad))) ∧ Below w.heap.size w w' := by
  obtain ⟨c0, c1, c2⟩ := h.cells
  clear h
  cases bad with
  | true =>
    have HU : Hid (doneS (st2 S p true) = false) := rfl
    rw [HU.out]
    go_enter Tryd.func26, Tryd.ntmps26
    go_wp2
    go_quiet (fail)
    go_wp2
    go_ret
    exact ⟨rfl, below_dN (Below.refl _ _) _⟩
  | false =>
    by_cases he : p = S.size
    · have HU : Hid (doneS (st2 S p false) = true) := by
        show (S.data.toList.drop p).isEmpty = true
        rw [List.drop_eq_nil_of_le (by simp; omega)]
        rfl
      rw [HU.out]
      have hb : ((p : Int) == (S.size : Int)) = true := by rw [he]; exact beq_self_eq_true _
      have hb2 : (p == S.size) = true := by rw [he]; exact beq_self_eq_true _
      clear he hp
      go_enter Tryd.func26, Tryd.ntmps26
      go_wp2
      go_quiet (fail)
      go_wp2
      go_ret
      exact ⟨rfl, below_dN (Below.refl _ _) _⟩
    · have HU : Hid (doneS (st2 S p false) = false) := by
        show (S.data.toList.drop p).isEmpty = false
        rw [List.isEmpty_eq_false_iff]
        intro h
        have := congrArg List.length h
        simp at this
        omega
      rw [HU.out]
      have hb : ((p : Int) == (S.size : Int)) = false := beq_eq_false_iff_ne.2 (by omega)
      have hb2 : (p == S.size) = false := beq_eq_false_iff_ne.2 he
      clear he hp
      go_enter Tryd.func26, Tryd.ntmps26
      go_wp2
      go_quiet (fail)
      go_wp2
      go_ret
      exact ⟨rfl, below_dN (Below.refl _ _) _⟩
end Pen
end Go.Proofs.YtmaddebfoefckaaDoor
