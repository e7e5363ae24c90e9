/- The program's reader: a number at most so great; whether all was there. -/
import Derived.Test.YtmaddebfoefckaaDoorPenR
namespace Go.Proofs.YtmaddebfoefckaaDoor
open Go.RowKit
namespace Pen
/-- What a reader has left; none: it is bad. -/
def st (rest : ByteArray) (bad : Bool) : Option (List UInt8) := if bad then none else some rest.data.toList
theorem word_bad (g : Nat) (s : ByteArray) (w : World) (h : RdAt w g s true) :
    Calls Tryd.prog 34 #[.pointer (some ⟨g, 0, none⟩)] w fun e w' => e = .returned (.tuple #[.int .u64 0, .bool false]) ∧ w = w' := by
  have CB := Lib.hid (bad_any g s true w h)
  clear h
  go_enter Tryd.func34, Tryd.ntmps34
  go_wp2_with (go_at_call 36; (with_reducible refine CB.out.mono ?_); rintro e w1 ⟨rfl, rfl⟩)
  go_ret2
  exact ⟨rfl, rfl⟩
/-- What a reader's step leaves. -/
def RdOut (g : Nat) (rest : ByteArray) (w : World) (r : Int × Option (List UInt8)) (e : Ending) (w' : World) : Prop :=
  ∃ (rest' : ByteArray) (bad' : Bool), e = .returned (.int .i64 r.1) ∧ Hid (st rest' bad' = r.2 ∧ rest'.size ≤ rest.size) ∧ Hid (RdAt w' g rest' bad') ∧ Hid (w.grownBy w' (some g))
theorem uintS_le (most : Int) (o : Option (List UInt8)) (h : most ≤ 9223372036854775807) : 0 ≤ (uintS most o).1 ∧ (uintS most o).1 ≤ 9223372036854775807 := by
  unfold uintS
  split
  · simp
  · split
    · simp
    · split
      · simp
      · rename_i hc; simp only; omega
set_option maxRecDepth 100000 in
set_option maxHeartbeats 2000000 in
theorem rUint_any (g : Nat) (rest : ByteArray) (bad : Bool) (most : Int) (hs : rest.size ≤ 1000000000) (w : World) (h : RdAt w g rest bad) :
    Calls Tryd.prog 21 #[.pointer (some ⟨g, 0, none⟩), .int .i64 most] w (RdOut g rest w (uintS most (st rest bad))) := by
  cases bad with
  | true =>
    have CW := Lib.hid (word_bad g rest w h)
    have CF := Lib.hid (fails_any g rest true w h)
    clear h
    go_enter Tryd.func21, Tryd.ntmps21
    go_wp2_with (first
      | (go_at_call 34; (with_reducible refine CW.out.mono ?_); rintro e w1 ⟨rfl, rfl⟩)
      | (go_at_call 35; (with_reducible refine CF.out.mono ?_); rintro e w2 ⟨rfl, hrd, hgr⟩; have HRD := Lib.hid hrd; have HGR := Lib.hid hgr; clear hrd hgr))
    go_ret
    exact ⟨rest, true, rfl, ⟨rfl, Nat.le_refl _⟩, HRD, HGR⟩
  | false =>
    have CW := Lib.hid (word_good g rest hs w h)
    have HST : Hid (st rest false = some rest.data.toList) := rfl
    rw [HST.out]
    cases hrd : rd rest.data.toList with
    | none =>
      have hw : wordS rest.data.toList = (0, false, rest.data.toList, true) := by unfold wordS; rw [hrd]
      have HU : Hid (uintS most (some rest.data.toList) = (0, none)) := by show _ = _; unfold uintS; simp only [hrd]
      rw [hw] at CW
      rw [HU.out]
      have CF : Hid (∀ w1 : World, RdAt w1 g (bs rest.data.toList) true → _) := fun w1 h1 => fails_any g (bs rest.data.toList) true w1 h1
      clear hrd hw h
      go_enter Tryd.func21, Tryd.ntmps21
      go_wp2_with (first
        | (go_at_call 34; (with_reducible refine CW.out.mono ?_); rintro e w1 ⟨rfl, H1, G1⟩)
        | (go_at_call 35; (with_reducible refine (CF.out _ H1.out).mono ?_); rintro e w2 ⟨rfl, hrd, hgr⟩; have HRD := Lib.hid hrd; have HGR := Lib.hid (grw_trans G1.out hgr); clear hrd hgr))
      go_ret
      exact ⟨bs rest.data.toList, true, rfl, ⟨rfl, by rw [bs_self]; exact Nat.le_refl _⟩, HRD, HGR⟩
    | some r =>
      obtain ⟨n, l'⟩ := r
      have hsm := rd_small hrd
      have hw : wordS rest.data.toList = ((n : Int), true, l', false) := by unfold wordS; rw [hrd]
      rw [hw] at CW
      have HLN : Hid ((bs l').size ≤ rest.size) := by show _ ≤ _; rw [bs_size]; have := hsm.2; simp at this; omega
      have CF : Hid (∀ w1 : World, RdAt w1 g (bs l') false → _) := fun w1 h1 => fails_any g (bs l') false w1 h1
      obtain ⟨NI, hNI⟩ : ∃ NI : Int, Hid ((n : Int) = NI) := ⟨_, rfl⟩
      rw [hNI.out] at CW
      have n0 : (0 : Int) ≤ NI := by have := hNI.out; omega
      by_cases hc1 : (9223372036854775807 : Int) < NI
      · have HU : Hid (uintS most (some rest.data.toList) = (0, none)) := by
          show _ = _; unfold uintS; simp only [hrd]; rw [if_pos (.inl (by rw [hNI.out]; exact hc1))]
        rw [HU.out]
        have d1 : decide ((9223372036854775807 : Int) < NI) = true := decide_eq_true hc1
        clear hrd hw h hsm hc1 n0
        go_enter Tryd.func21, Tryd.ntmps21
        go_wp2_with (first
          | (go_at_call 34; (with_reducible refine CW.out.mono ?_); rintro e w1 ⟨rfl, H1, G1⟩)
          | (go_at_call 35; (with_reducible refine (CF.out _ H1.out).mono ?_); rintro e w2 ⟨rfl, hrd, hgr⟩; have HRD := Lib.hid hrd; have HGR := Lib.hid (grw_trans G1.out hgr); clear hrd hgr))
        go_ret
        exact ⟨bs l', true, rfl, ⟨rfl, HLN.out⟩, HRD, HGR⟩
      · have d1 : decide ((9223372036854775807 : Int) < NI) = false := decide_eq_false hc1
        have e1 : wrap64 NI = NI := by unfold wrap64; omega
        have e2 : IntKind.i64.wrap NI = NI := by rw [IntKind.wrap_i64]; omega
        by_cases hc2 : most < NI
        · have HU : Hid (uintS most (some rest.data.toList) = (0, none)) := by
            show _ = _; unfold uintS; simp only [hrd]; rw [if_pos (.inr (by rw [hNI.out]; exact hc2))]
          rw [HU.out]
          have d2 : decide (most < NI) = true := decide_eq_true hc2
          clear hrd hw h hsm hc1 hc2 n0
          go_enter Tryd.func21, Tryd.ntmps21
          go_wp2_with (first
            | (go_at_call 34; (with_reducible refine CW.out.mono ?_); rintro e w1 ⟨rfl, H1, G1⟩)
            | (go_at_call 35; (with_reducible refine (CF.out _ H1.out).mono ?_); rintro e w2 ⟨rfl, hrd, hgr⟩; have HRD := Lib.hid hrd; have HGR := Lib.hid (grw_trans G1.out hgr); clear hrd hgr))
          go_ret
          exact ⟨bs l', true, rfl, ⟨rfl, HLN.out⟩, HRD, HGR⟩
        · have HU : Hid (uintS most (some rest.data.toList) = (NI, some l')) := by
            show _ = _; unfold uintS; simp only [hrd]; rw [if_neg (fun hh => by rw [hNI.out] at hh; rcases hh with hh | hh; exact hc1 hh; exact hc2 hh), hNI.out]
          rw [HU.out]
          have d2 : decide (most < NI) = false := decide_eq_false hc2
          clear hrd hw h hsm hc1 hc2 n0
          go_enter Tryd.func21, Tryd.ntmps21
          go_wp2_with (first
            | (go_at_call 34; (with_reducible refine CW.out.mono ?_); rintro e w1 ⟨rfl, H1, G1⟩))
          go_ret
          exact ⟨bs l', false, rfl, ⟨rfl, HLN.out⟩, H1, G1⟩
set_option maxRecDepth 100000 in
theorem done_any (g : Nat) (rest : ByteArray) (bad : Bool) (w : World) (h : RdAt w g rest bad) :
    Calls Tryd.prog 23 #[.pointer (some ⟨g, 0, none⟩)] w fun e w' => e = .returned (.bool (doneS (st rest bad))) ∧ w = w' := by
  have CB := Lib.hid (bad_any g rest bad w h)
  obtain ⟨c0, _, _⟩ := h.cells
  cases bad with
  | true =>
    have HU : Hid (doneS (st rest true) = false) := rfl
    rw [HU.out]
    clear h
    go_enter Tryd.func23, Tryd.ntmps23
    go_wp2_with (go_at_call 36; (with_reducible refine CB.out.mono ?_); rintro e w1 ⟨rfl, rfl⟩)
    go_ret
    exact ⟨rfl, rfl⟩
  | false =>
    have hl : rest.toList = rest.data.toList := ByteArray.toList_eq rest
    cases he : rest.data.toList.isEmpty with
    | true =>
      have HU : Hid (doneS (st rest false) = true) := he
      rw [HU.out]
      have he2 : rest.toList.isEmpty = true := by rw [hl]; exact he
      clear h he hl
      go_enter Tryd.func23, Tryd.ntmps23
      go_wp2_with (go_at_call 36; (with_reducible refine CB.out.mono ?_); rintro e w1 ⟨rfl, rfl⟩)
      go_ret
      exact ⟨rfl, rfl⟩
    | false =>
      have HU : Hid (doneS (st rest false) = false) := he
      rw [HU.out]
      have he2 : rest.toList.isEmpty = false := by rw [hl]; exact he
      clear h he hl
      go_enter Tryd.func23, Tryd.ntmps23
      go_wp2_with (go_at_call 36; (with_reducible refine CB.out.mono ?_); rintro e w1 ⟨rfl, rfl⟩)
      go_ret
      exact ⟨rfl, rfl⟩
end Pen
end Go.Proofs.YtmaddebfoefckaaDoor
