/- Texts put together: PenR2, PenS, PenS2, PenL, PenI. -/
import Derived.Test.YtlhalhilnkneeaaGreatDoorM00
import Derived.Deep.QuietTactic
import Derived.BigQuiet
set_option linter.all false
section
namespace Go.Proofs.YtlhalhilnkneeaaGreatDoor
open Go.RowKit
namespace Pen
/-- What a reader has left; none: it is bad. -/
def st (rest : ByteArray) (bad : Bool) : Option (List UInt8) := if bad then none else some rest.data.toList
theorem word_bad (g : Nat) (s : ByteArray) (w : World) (h : RdAt w g s true) :
    Calls Tryz.prog 116 #[.pointer (some ⟨g, 0, none⟩)] w fun e w' => e = .returned (.tuple #[.int .u64 0, .bool false]) ∧ w = w' := by
  have CB := Lib.hid (bad_any g s true w h)
  clear h
  go_enter Tryz.func116, Tryz.ntmps116
  go_wp2_with (go_at_call 118; (with_reducible refine CB.out.mono ?_); rintro e w1 ⟨rfl, rfl⟩)
  go_ret2
  exact ⟨rfl, rfl⟩
/-- What a reader's step leaves. -/
def RdOut (g : Nat) (rest : ByteArray) (w : World) (r : Int × Option (List UInt8)) (e : Ending) (w' : World) : Prop :=
  ∃ (rest' : ByteArray) (bad' : Bool), e = .returned (.int .i64 r.1) ∧ Hid (st rest' bad' = r.2 ∧ rest'.size ≤ rest.size) ∧ Hid (RdAt w' g rest' bad') ∧ Hid (w.grownBy w' (some g))
theorem uintS_le (most : Int) (o : Option (List UInt8)) (h : most ≤ 9223372036854775807) : 0 ≤ (uintS most o).1 ∧ (uintS most o).1 ≤ 9223372036854775807 := by
  unfold uintS
  split
  · simp
  · split
    · simp
    · split
      · simp
      · rename_i hc; simp only; omega
set_option maxRecDepth 100000 in
set_option maxHeartbeats 2000000 in
theorem rUint_any (g : Nat) (rest : ByteArray) (bad : Bool) (most : Int) (hs : rest.size ≤ 1000000000) (w : World) (h : RdAt w g rest bad) :
    Calls Tryz.prog 79 #[.pointer (some ⟨g, 0, none⟩), .int .i64 most] w (RdOut g rest w (uintS most (st rest bad))) := by
  cases bad with
  | true =>
    have CW := Lib.hid (word_bad g rest w h)
    have CF := Lib.hid (fails_any g rest true w h)
    clear h
    go_enter Tryz.func79, Tryz.ntmps79
    go_wp2_with (first
      | (go_at_call 116; (with_reducible refine CW.out.mono ?_); rintro e w1 ⟨rfl, rfl⟩)
      | (go_at_call 117; (with_reducible refine CF.out.mono ?_); rintro e w2 ⟨rfl, hrd, hgr⟩; have HRD := Lib.hid hrd; have HGR := Lib.hid hgr; clear hrd hgr))
    go_ret
    exact ⟨rest, true, rfl, ⟨rfl, Nat.le_refl _⟩, HRD, HGR⟩
  | false =>
    have CW := Lib.hid (word_good g rest hs w h)
    have HST : Hid (st rest false = some rest.data.toList) := rfl
    rw [HST.out]
    cases hrd : rd rest.data.toList with
    | none =>
      have hw : wordS rest.data.toList = (0, false, rest.data.toList, true) := by unfold wordS; rw [hrd]
      have HU : Hid (uintS most (some rest.data.toList) = (0, none)) := by show _ = _; unfold uintS; simp only [hrd]
      rw [hw] at CW
      rw [HU.out]
      have CF : Hid (∀ w1 : World, RdAt w1 g (bs rest.data.toList) true → _) := fun w1 h1 => fails_any g (bs rest.data.toList) true w1 h1
      clear hrd hw h
      go_enter Tryz.func79, Tryz.ntmps79
      go_wp2_with (first
        | (go_at_call 116; (with_reducible refine CW.out.mono ?_); rintro e w1 ⟨rfl, H1, G1⟩)
        | (go_at_call 117; (with_reducible refine (CF.out _ H1.out).mono ?_); rintro e w2 ⟨rfl, hrd, hgr⟩; have HRD := Lib.hid hrd; have HGR := Lib.hid (grw_trans G1.out hgr); clear hrd hgr))
      go_ret
      exact ⟨bs rest.data.toList, true, rfl, ⟨rfl, by rw [bs_self]; exact Nat.le_refl _⟩, HRD, HGR⟩
    | some r =>
      obtain ⟨n, l'⟩ := r
      have hsm := rd_small hrd
      have hw : wordS rest.data.toList = ((n : Int), true, l', false) := by unfold wordS; rw [hrd]
      rw [hw] at CW
      have HLN : Hid ((bs l').size ≤ rest.size) := by show _ ≤ _; rw [bs_size]; have := hsm.2; simp at this; omega
      have CF : Hid (∀ w1 : World, RdAt w1 g (bs l') false → _) := fun w1 h1 => fails_any g (bs l') false w1 h1
      obtain ⟨NI, hNI⟩ : ∃ NI : Int, Hid ((n : Int) = NI) := ⟨_, rfl⟩
      rw [hNI.out] at CW
      have n0 : (0 : Int) ≤ NI := by have := hNI.out; omega
      by_cases hc1 : (9223372036854775807 : Int) < NI
      · have HU : Hid (uintS most (some rest.data.toList) = (0, none)) := by
          show _ = _; unfold uintS; simp only [hrd]; rw [if_pos (.inl (by rw [hNI.out]; exact hc1))]
        rw [HU.out]
        have d1 : decide ((9223372036854775807 : Int) < NI) = true := decide_eq_true hc1
        clear hrd hw h hsm hc1 n0
        go_enter Tryz.func79, Tryz.ntmps79
        go_wp2_with (first
          | (go_at_call 116; (with_reducible refine CW.out.mono ?_); rintro e w1 ⟨rfl, H1, G1⟩)
          | (go_at_call 117; (with_reducible refine (CF.out _ H1.out).mono ?_); rintro e w2 ⟨rfl, hrd, hgr⟩; have HRD := Lib.hid hrd; have HGR := Lib.hid (grw_trans G1.out hgr); clear hrd hgr))
        go_ret
        exact ⟨bs l', true, rfl, ⟨rfl, HLN.out⟩, HRD, HGR⟩
      · have d1 : decide ((9223372036854775807 : Int) < NI) = false := decide_eq_false hc1
        have e1 : wrap64 NI = NI := by unfold wrap64; omega
        have e2 : IntKind.i64.wrap NI = NI := by rw [IntKind.wrap_i64]; omega
        by_cases hc2 : most < NI
        · have HU : Hid (uintS most (some rest.data.toList) = (0, none)) := by
            show _ = _; unfold uintS; simp only [hrd]; rw [if_pos (.inr (by rw [hNI.out]; exact hc2))]
          rw [HU.out]
          have d2 : decide (most < NI) = true := decide_eq_true hc2
          clear hrd hw h hsm hc1 hc2 n0
          go_enter Tryz.func79, Tryz.ntmps79
          go_wp2_with (first
            | (go_at_call 116; (with_reducible refine CW.out.mono ?_); rintro e w1 ⟨rfl, H1, G1⟩)
            | (go_at_call 117; (with_reducible refine (CF.out _ H1.out).mono ?_); rintro e w2 ⟨rfl, hrd, hgr⟩; have HRD := Lib.hid hrd; have HGR := Lib.hid (grw_trans G1.out hgr); clear hrd hgr))
          go_ret
          exact ⟨bs l', true, rfl, ⟨rfl, HLN.out⟩, HRD, HGR⟩
        · have HU : Hid (uintS most (some rest.data.toList) = (NI, some l')) := by
            show _ = _; unfold uintS; simp only [hrd]; rw [if_neg (fun hh => by rw [hNI.out] at hh; rcases hh with hh | hh; exact hc1 hh; exact hc2 hh), hNI.out]
          rw [HU.out]
          have d2 : decide (most < NI) = false := decide_eq_false hc2
          clear hrd hw h hsm hc1 hc2 n0
          go_enter Tryz.func79, Tryz.ntmps79
          go_wp2_with (first
            | (go_at_call 116; (with_reducible refine CW.out.mono ?_); rintro e w1 ⟨rfl, H1, G1⟩))
          go_ret
          exact ⟨bs l', false, rfl, ⟨rfl, HLN.out⟩, H1, G1⟩
set_option maxRecDepth 100000 in
theorem done_any (g : Nat) (rest : ByteArray) (bad : Bool) (w : World) (h : RdAt w g rest bad) :
    Calls Tryz.prog 81 #[.pointer (some ⟨g, 0, none⟩)] w fun e w' => e = .returned (.bool (doneS (st rest bad))) ∧ w = w' := by
  have CB := Lib.hid (bad_any g rest bad w h)
  obtain ⟨c0, _, _⟩ := h.cells
  cases bad with
  | true =>
    have HU : Hid (doneS (st rest true) = false) := rfl
    rw [HU.out]
    clear h
    go_enter Tryz.func81, Tryz.ntmps81
    go_wp2_with (go_at_call 118; (with_reducible refine CB.out.mono ?_); rintro e w1 ⟨rfl, rfl⟩)
    go_ret
    exact ⟨rfl, rfl⟩
  | false =>
    have hl : rest.toList = rest.data.toList := ByteArray.toList_eq rest
    cases he : rest.data.toList.isEmpty with
    | true =>
      have HU : Hid (doneS (st rest false) = true) := he
      rw [HU.out]
      have he2 : rest.toList.isEmpty = true := by rw [hl]; exact he
      clear h he hl
      go_enter Tryz.func81, Tryz.ntmps81
      go_wp2_with (go_at_call 118; (with_reducible refine CB.out.mono ?_); rintro e w1 ⟨rfl, rfl⟩)
      go_ret
      exact ⟨rfl, rfl⟩
    | false =>
      have HU : Hid (doneS (st rest false) = false) := he
      rw [HU.out]
      have he2 : rest.toList.isEmpty = false := by rw [hl]; exact he
      clear h he hl
      go_enter Tryz.func81, Tryz.ntmps81
      go_wp2_with (go_at_call 118; (with_reducible refine CB.out.mono ?_); rintro e w1 ⟨rfl, rfl⟩)
      go_ret
      exact ⟨rfl, rfl⟩
end Pen
end Go.Proofs.YtlhalhilnkneeaaGreatDoor
end
section
namespace Go.Proofs.YtlhalhilnkneeaaGreatDoor
open Go.RowKit
namespace Pen
/-- The reference's reader's cells. -/
def rrc (S : ByteArray) (p : Nat) (bad : Bool) (i : Nat) : Value := if i = 0 then .string S else if i = 1 then .int .i64 (p : Int) else .bool bad
def RrAt (w : World) (g : Nat) (S : ByteArray) (p : Nat) (bad : Bool) : Prop := w.rowIs g 121 3 (rrc S p bad)
/-- What is left; none: it is bad. -/
def st2 (S : ByteArray) (p : Nat) (bad : Bool) : Option (List UInt8) := if bad then none else some (S.data.toList.drop p)
namespace RrAt
variable {w : World} {g p : Nat} {S : ByteArray} {bad : Bool}
theorem cells (h : RrAt w g S p bad) : w.cell? ⟨g, 0, none⟩ = some (.string S) ∧ w.cell? ⟨g, 1, none⟩ = some (.int .i64 (p : Int)) ∧ w.cell? ⟨g, 2, none⟩ = some (.bool bad) :=
  ⟨h.cell (by decide), h.cell (by decide), h.cell (by decide)⟩
theorem setBad (h : RrAt w g S p bad) : RrAt (w.setCell ⟨g, 2, none⟩ (.bool true)) g S p true :=
  (World.rowIs.set h 2 _).congr fun i hi => by
    unfold rrc
    by_cases e : i = 2
    · rw [if_pos e, if_neg (by omega), if_neg (by omega)]
    · rw [if_neg e]
      by_cases e0 : i = 0
      · rw [if_pos e0, if_pos e0]
      · rw [if_neg e0, if_neg e0, if_pos (by omega), if_pos (by omega)]
theorem setAt (h : RrAt w g S p bad) (q : Nat) : RrAt (w.setCell ⟨g, 1, none⟩ (.int .i64 (q : Int))) g S q bad :=
  (World.rowIs.set h 1 _).congr fun i hi => by
    unfold rrc
    by_cases e : i = 1
    · rw [if_pos e, if_neg (by omega), if_pos e]
    · rw [if_neg e]
      by_cases e0 : i = 0
      · rw [if_pos e0, if_pos e0]
      · rw [if_neg e0, if_neg e0, if_neg e, if_neg e]
theorem drewN (h : RrAt w g S p bad) (q : Nat) : RrAt (w.drewN q) g S p bad := h
theorem drew (h : RrAt w g S p bad) : RrAt w.drew g S p bad := h
end RrAt
theorem grw_dN {a b : World} {g : Nat} (h : a.grownBy b (some g)) (n : Nat) : a.grownBy (b.drewN n) (some g) := ⟨h.os, h.tape, h.output, h.size, h.block⟩
theorem grw_d {a b : World} {g : Nat} (h : a.grownBy b (some g)) : a.grownBy b.drew (some g) := ⟨h.os, h.tape, h.output, h.size, h.block⟩
theorem rfails_any (g : Nat) (S : ByteArray) (p : Nat) (bad : Bool) (w : World) (h : RrAt w g S p bad) :
    Calls Tryz.prog 126 #[.pointer (some ⟨g, 0, none⟩)] w fun e w' => e = .returned (.int .u64 0) ∧ RrAt w' g S p true ∧ w.grownBy w' (some g) := by
  obtain ⟨c0, c1, c2⟩ := h.cells
  have f1 := World.rowIs.frozen h 2
  have HS := Lib.hid h.setBad
  clear h
  go_enter Tryz.func126, Tryz.ntmps126
  go_wp2
  go_ret
  exact ⟨rfl, HS.out, grw_set _ _ _ _⟩
/-- What the reference's word leaves. -/
def RrOut (g : Nat) (S : ByteArray) (w : World) (k : IntKind) (r : Int × Option (List UInt8)) (e : Ending) (w' : World) : Prop :=
  ∃ (p' : Nat) (bad' : Bool), e = .returned (.int k r.1) ∧ Hid (st2 S p' bad' = r.2 ∧ p' ≤ S.size) ∧ Hid (RrAt w' g S p' bad') ∧ Hid (w.grownBy w' (some g))
def rdO (o : Option (List UInt8)) : Int × Option (List UInt8) := match o with
  | none => (0, none)
  | some l => match rd l with
    | none => (0, none)
    | some (n, l') => ((n : Int), some l')
set_option maxRecDepth 100000 in
theorem rword_bad (g : Nat) (S : ByteArray) (p : Nat) (hp : p ≤ S.size) (w : World) (h : RrAt w g S p true) :
    Calls Tryz.prog 125 #[.pointer (some ⟨g, 0, none⟩)] w (RrOut g S w .u64 (0, none)) := by
  have CF : Hid (∀ w1 : World, RrAt w1 g S p true → _) := fun w1 h1 => rfails_any g S p true w1 h1
  have HQ := h
  obtain ⟨c0, c1, c2⟩ := h.cells
  have HP := Lib.hid hp
  clear h hp
  go_enter Tryz.func125, Tryz.ntmps125
  go_wp2
  go_loopg [3, 4] 1 (fun gk v3 v4 wr => v3 = .int .u64 0 ∧ v4 = .int .i64 0 ∧ wr = w)
  case atStart => exact ⟨rfl, rfl, rfl⟩
  case round =>
    obtain ⟨rfl, rfl, rfl⟩ := hrel
    go_wp2
    go_quiet (fail)
    go_wp2_with (go_at_call 126; (with_reducible refine (CF.out _ ?_).mono ?_); (first | exact HQ | exact HQ.drewN _ | exact (HQ.drewN _).drewN _); rintro e w2 ⟨rfl, hrd, hgr⟩; have HRD := Lib.hid hrd; have HGR := Lib.hid hgr; clear hrd hgr)
    go_ret
    exact ⟨p, true, rfl, ⟨rfl, HP.out⟩, HRD, grw_trans (grw_dN (grw_refl _ _) _) HGR.out⟩
set_option maxRecDepth 100000 in
set_option maxHeartbeats 4000000 in
theorem rword_good (g : Nat) (S : ByteArray) (p : Nat) (hp : p ≤ S.size) (hs : S.size ≤ 1000000000) (w : World) (h : RrAt w g S p false) :
    Calls Tryz.prog 125 #[.pointer (some ⟨g, 0, none⟩)] w (RrOut g S w .u64 (rdO (some (S.data.toList.drop p)))) := by
  have CF : Hid (∀ w1 : World, RrAt w1 g S p false → _) := fun w1 h1 => rfails_any g S p false w1 h1
  have HH := Lib.hid h
  have HP : Hid (p ≤ S.size ∧ S.size ≤ 1000000000) := ⟨hp, hs⟩
  have hp1 : (p : Int) ≤ 1000000000 := by omega
  have hs1 : (S.size : Int) ≤ 1000000000 := by omega
  obtain ⟨R, hR⟩ : ∃ R, Hid (rdO (some (S.data.toList.drop p)) = R) := ⟨_, rfl⟩
  rw [hR.out]
  clear h hp hs
  go_enter Tryz.func125, Tryz.ntmps125
  go_wp2
  go_loopw [3, 4] (fun v3 v4 wr => ∃ (k n : Nat), k ≤ 10 ∧ v4 = .int .i64 (k : Int) ∧ v3 = .int .u64 (n : Int) ∧ Hid (n < 2 ^ (7 * k) ∧ rdF (10 - k) k n (S.data.toList.drop (p + k)) = rd (S.data.toList.drop p)) ∧ Hid (RrAt wr g S p false) ∧ Hid (w.grownBy wr (some g))) (fun _ v4 _ => 10 - (intOf v4).toNat)
  case atStart => exact ⟨0, 0, by omega, rfl, rfl, ⟨by decide, rfl⟩, HH, grw_refl _ _⟩
  case round =>
    obtain ⟨k, n, hk, rfl, rfl, HN, HQh, HGr⟩ := hrel
    have HQ := HQh.out
    obtain ⟨c0, c1, c2⟩ := HQ.cells
    have f1 := World.rowIs.frozen HQ 1
    replace HQ := HQ
    by_cases hlt : k < 10
    · have hlt1 : (k : Int) < 10 := by omega
      have hk0 : (0 : Int) ≤ (k : Int) := by omega
      obtain ⟨j, hj⟩ : ∃ j : Nat, Hid (p + k = j) := ⟨_, rfl⟩
      have hj1 : (p : Int) + (k : Int) = (j : Int) := by have := hj.out; omega
      have hj2 : IntKind.i64.wrap ((p : Int) + (k : Int)) = (j : Int) := by rw [IntKind.wrap_i64]; have := hj.out; omega
      have hj3 : IntKind.i64.wrap (j : Int) = (j : Int) := by rw [IntKind.wrap_i64]; have := hj.out; omega
      by_cases hjs : j < S.size
      · have hjs1 : (j : Int) < (S.size : Int) := by omega
        have hj0 : (0 : Int) ≤ (j : Int) := by omega
        have dge : decide ((S.size : Int) ≤ (j : Int)) = false := decide_eq_false (by omega)
        have dge2 : decide (S.size ≤ j) = false := decide_eq_false (by omega)
        have HST : Hid (rd (S.data.toList.drop p) = if (S[j] = 0 ∧ 0 < k) ∨ (k = 9 ∧ 1 < S[j].toNat) then none else if S[j].toNat < 128 then some (n + S[j].toNat % 128 * 2 ^ (7 * k), S.data.toList.drop (j + 1)) else rdF (9 - k) (k + 1) (n + S[j].toNat % 128 * 2 ^ (7 * k)) (S.data.toList.drop (j + 1))) := by
          have := HN.out.2
          rw [hj.out, drop_at S j hjs, show 10 - k = (9 - k) + 1 by omega, rdF_step] at this
          exact this.symm
        have hbn := (S[j]).toNat_lt
        have HZ0 : Hid (S[j] = 0 ↔ S[j].toNat = 0) := ⟨fun h => by rw [h]; rfl, fun h => by apply UInt8.toNat_inj.1; rw [h]; rfl⟩
        obtain ⟨B, hB⟩ : ∃ B : Nat, S[j].toNat = B := ⟨_, rfl⟩
        rw [hB] at HST HZ0 hbn
        obtain ⟨A, hAe⟩ : ∃ A : Int, Hid (((B % 128 : Nat) : Int) = A) := ⟨_, rfl⟩
        obtain ⟨t, ht⟩ : ∃ t : Nat, Hid (7 * k = t) := ⟨_, rfl⟩
        have ht2 : 7 * (k : Int) = (t : Int) := by have := ht.out; omega
        have ht4 : (t : Int) ≤ 64 := by have := ht.out; omega
        have ht3 : t ≤ 63 := by have := ht.out; omega
        obtain ⟨Z, hZ⟩ : ∃ Z : Int, (B : Int) = Z := ⟨_, rfl⟩
        have HBZ : Hid ((B : Int) = Z ∧ B < 256) := ⟨hZ, by omega⟩
        have hZw : IntKind.u64.wrap Z = Z := by rw [IntKind.wrap_u64]; have := HBZ.out; omega
        have hA1 : Z % 128 = A := by have := HBZ.out; have := hAe.out; omega
        have hA2 : Z.tmod 128 = A := by rw [Int.tmod_eq_emod_of_nonneg (by have := HBZ.out; omega)]; exact hA1
        have a0 : 0 ≤ A := by have := hAe.out; omega
        have z0' : 0 ≤ Z := by have := HBZ.out; omega
        by_cases hfail : (B = 0 ∧ 0 < k) ∨ (k = 9 ∧ 1 < B)
        · have HFR : Hid (R = (0, none)) := by
            show R = _
            rw [← hR.out]
            unfold rdO
            simp only
            rw [HST.out, if_pos (by rcases hfail with h | h; exact .inl ⟨HZ0.out.2 h.1, h.2⟩; exact .inr h)]
          by_cases h9 : k = 9 ∧ 1 < B
          · have dz1 : decide (1 < Z) = true := decide_eq_true (by have := HBZ.out.1; omega)
            have dk9 : ((k : Int) == 9) = true := by rw [h9.1]; rfl
            clear hfail hbn HST h9
            go_wp2
            go_quiet (fail)
            go_wp2
            go_quiet (fail)
            go_wp2_with (go_at_call 126; (with_reducible refine (CF.out _ ?_).mono ?_); (first | exact HQ | exact HQ.drewN _ | exact (HQ.drewN _).drewN _); rintro e w2 ⟨rfl, hrd, hgr⟩; have HRD := Lib.hid hrd; have HGR := Lib.hid hgr; clear hrd hgr)
            go_ret
            rw [HFR.out]
            exact ⟨p, true, rfl, ⟨rfl, HP.out.1⟩, HRD, grw_trans (grw_dN HGr.out _) HGR.out⟩
          · have hz : B = 0 ∧ 0 < k := by rcases hfail with h | h; exact h; exact absurd h h9
            have z0 : Z = 0 := by have := HBZ.out.1; omega
            have dk0 : (0 : Int) < (k : Int) := by omega
            have dk0' : 0 < k := hz.2
            subst z0
            clear hfail hz hbn HST h9
            by_cases h99 : k = 9
            · have dk9 : ((k : Int) == 9) = true := by rw [h99]; rfl
              replace h99 := Lib.hid h99
              go_wp2
              go_quiet (fail)
              go_wp2
              go_quiet (fail)
              go_wp2_with (go_at_call 126; (with_reducible refine (CF.out _ ?_).mono ?_); (first | exact HQ | exact HQ.drewN _ | exact (HQ.drewN _).drewN _); rintro e w2 ⟨rfl, hrd, hgr⟩; have HRD := Lib.hid hrd; have HGR := Lib.hid hgr; clear hrd hgr)
              go_ret
              rw [HFR.out]
              exact ⟨p, true, rfl, ⟨rfl, HP.out.1⟩, HRD, grw_trans (grw_dN HGr.out _) HGR.out⟩
            · have dk9 : ((k : Int) == 9) = false := beq_eq_false_iff_ne.2 (by omega)
              clear h99
              go_wp2
              go_quiet (fail)
              go_wp2
              go_quiet (fail)
              go_wp2_with (go_at_call 126; (with_reducible refine (CF.out _ ?_).mono ?_); (first | exact HQ | exact HQ.drewN _ | exact (HQ.drewN _).drewN _); rintro e w2 ⟨rfl, hrd, hgr⟩; have HRD := Lib.hid hrd; have HGR := Lib.hid hgr; clear hrd hgr)
              go_ret
              rw [HFR.out]
              exact ⟨p, true, rfl, ⟨rfl, HP.out.1⟩, HRD, grw_trans (grw_dN HGr.out _) HGR.out⟩
        · have hbound : n + B % 128 * 2 ^ (7 * k) < 2 ^ 64 ∧ n + B % 128 * 2 ^ (7 * k) < 2 ^ (7 * (k + 1)) := acc_bound HN.out.1 (by omega) (by omega) (fun e => by
            have : ¬ 1 < B := fun h => hfail (.inr ⟨e, h⟩)
            omega)
          have HBD := Lib.hid hbound.2
          have hwr : IntKind.u64.wrap (A * 2 ^ t) = ((B % 128 * 2 ^ (7 * k) : Nat) : Int) := by
            rw [IntKind.wrap_u64, ← hAe.out, ← ht.out, show (((B % 128 : Nat) : Int) * 2 ^ (7 * k)) = ((B % 128 * 2 ^ (7 * k) : Nat) : Int) by rw [Int.natCast_mul, Int.natCast_pow]; rfl]
            have := hbound.1
            omega
          obtain ⟨F, hF⟩ : ∃ F : Int, Hid (((B % 128 * 2 ^ (7 * k) : Nat) : Int) = F) := ⟨_, rfl⟩
          obtain ⟨N2, hN2⟩ : ∃ N2 : Nat, Hid (n + B % 128 * 2 ^ (7 * k) = N2) := ⟨_, rfl⟩
          have hsum : IntKind.u64.wrap ((n : Int) + F) = (N2 : Int) := by rw [IntKind.wrap_u64, ← hF.out, ← hN2.out]; have := hbound.1; omega
          rw [hF.out] at hwr
          rw [hN2.out] at HBD HST
          have hN63 : (N2 : Int) < 18446744073709551616 := by have := hN2.out; have := hbound.1; omega
          replace hN63 := Lib.hid hN63
          clear hbound
          by_cases h128 : B < 128
          · have HRR : Hid (R = ((N2 : Int), some (S.data.toList.drop (j + 1)))) := by
              show R = _
              rw [← hR.out]
              unfold rdO
              simp only
              rw [HST.out, if_neg (fun h => hfail (by rcases h with h | h; exact .inl ⟨HZ0.out.1 h.1, h.2⟩; exact .inr h)), if_pos h128]
            have dlast : decide (Z < 128) = true := decide_eq_true (by have := HBZ.out.1; omega)
            have hj4 : IntKind.i64.wrap ((j : Int) + 1) = ((j + 1 : Nat) : Int) := by rw [IntKind.wrap_i64]; have := hj.out; omega
            obtain ⟨J, hJ⟩ : ∃ J : Nat, Hid (j + 1 = J) := ⟨_, rfl⟩
            have HSA := Lib.hid (HQ.setAt J)
            rw [hJ.out] at HRR hj4
            have HJle : Hid (J ≤ S.size) := by have := hJ.out; show _ ≤ _; omega
            by_cases hz : B = 0
            · have z0 : Z = 0 := by have := HBZ.out.1; omega
              have hk00 : k = 0 := by
                by_cases e : k = 0
                · exact e
                · exact absurd (.inl ⟨hz, by omega⟩) hfail
              subst z0
              have dk9 : ((k : Int) == 9) = false := beq_eq_false_iff_ne.2 (by omega)
              have dkz : decide ((0 : Int) < (k : Int)) = false := decide_eq_false (by omega)
              have dkz2 : decide (0 < k) = false := decide_eq_false (by omega)
              have hkn : ¬ 0 < k := by omega
              have hnn : IntKind.u64.wrap (n : Int) = (N2 : Int) := by rw [← hsum, ← hF.out, hz]; simp
              clear hfail hz hbn HST h128 hk00 hlt hk
              go_wp2
              go_quiet (fail)
              go_wp2
              go_quiet (fail)
              go_wp2
              go_ret
              rw [HRR.out]
              exact ⟨J, false, rfl, ⟨rfl, HJle.out⟩, HSA.out, grw_trans (grw_dN HGr.out _) (grw_set _ _ _ _)⟩
            · have dz0 : (Z == 0) = false := beq_eq_false_iff_ne.2 (by have := HBZ.out.1; omega)
              by_cases hk9 : k = 9
              · have dz1 : decide (1 < Z) = false := decide_eq_false (fun h => hfail (.inr ⟨hk9, by have := HBZ.out.1; omega⟩))
                have dk9 : ((k : Int) == 9) = true := by rw [hk9]; rfl
                replace hk9 := Lib.hid hk9
                clear hfail hz hbn HST h128
                go_wp2
                go_quiet (fail)
                go_wp2
                go_quiet (fail)
                go_wp2
                go_ret
                rw [HRR.out]
                exact ⟨J, false, rfl, ⟨rfl, HJle.out⟩, HSA.out, grw_trans (grw_dN HGr.out _) (grw_set _ _ _ _)⟩
              · have dk9 : ((k : Int) == 9) = false := beq_eq_false_iff_ne.2 (by omega)
                clear hfail hz hbn HST h128 hk9
                go_wp2
                go_quiet (fail)
                go_wp2
                go_quiet (fail)
                go_wp2
                go_ret
                rw [HRR.out]
                exact ⟨J, false, rfl, ⟨rfl, HJle.out⟩, HSA.out, grw_trans (grw_dN HGr.out _) (grw_set _ _ _ _)⟩
          · have dlast : decide (Z < 128) = false := decide_eq_false (by have := HBZ.out.1; omega)
            have k9 : ¬ k = 9 := fun e => hfail (.inr ⟨e, by omega⟩)
            have dk9 : ((k : Int) == 9) = false := beq_eq_false_iff_ne.2 (by omega)
            have HNX : Hid (rdF (10 - (k + 1)) (k + 1) N2 (S.data.toList.drop (p + (k + 1))) = rd (S.data.toList.drop p)) := by
              show _ = _
              rw [HST.out, if_neg (fun h => hfail (by rcases h with h | h; exact .inl ⟨HZ0.out.1 h.1, h.2⟩; exact .inr h)), if_neg h128]
              rw [show 10 - (k + 1) = 9 - k by omega, show p + (k + 1) = j + 1 by have := hj.out; omega]
            have dz0 : (Z == 0) = false := beq_eq_false_iff_ne.2 (by have := HBZ.out.1; omega)
            clear hfail h128 hbn HST k9
            go_wp2
            go_quiet (fail)
            go_wp2
            go_quiet (fail)
            go_wp2
            go_roundw
            case rel => exact ⟨k + 1, N2, by omega, by go_num, rfl, ⟨HBD.out, HNX.out⟩, HQ.drewN _, grw_dN HGr.out _⟩
            case measure => simp [intOf]; omega
      · have HFR : Hid (R = (0, none)) := by
          show R = _
          rw [← hR.out]
          unfold rdO
          simp only
          have h1 := HN.out.2
          have h2 : rdF (10 - k) k n (S.data.toList.drop (p + k)) = none := by
            rw [List.drop_eq_nil_of_le (by have := hj.out; simp; omega)]
            cases (10 - k) <;> rfl
          rw [← h1, h2]
        have dge : decide ((S.size : Int) ≤ (j : Int)) = true := decide_eq_true (by omega)
        have dge2 : decide (S.size ≤ j) = true := decide_eq_true (by omega)
        go_wp2
        go_quiet (fail)
        go_wp2_with (go_at_call 126; (with_reducible refine (CF.out _ ?_).mono ?_); (first | exact HQ | exact HQ.drewN _ | exact (HQ.drewN _).drewN _); rintro e w2 ⟨rfl, hrd, hgr⟩; have HRD := Lib.hid hrd; have HGR := Lib.hid hgr; clear hrd hgr)
        go_ret
        rw [HFR.out]
        exact ⟨p, true, rfl, ⟨rfl, HP.out.1⟩, HRD, grw_trans (grw_dN HGr.out _) HGR.out⟩
    · have hge : ¬ (k : Int) < 10 := by omega
      have HFR : Hid (R = (0, none)) := by
        show R = _
        rw [← hR.out]
        unfold rdO
        simp only
        have h1 := HN.out.2
        have h2 : rdF (10 - k) k n (S.data.toList.drop (p + k)) = none := by
          rw [show 10 - k = 0 by omega]
          cases S.data.toList.drop (p + k) <;> rfl
        rw [← h1, h2]
      go_wp2_with (go_at_call 126; (with_reducible refine (CF.out _ ?_).mono ?_); (first | exact HQ | exact HQ.drewN _ | exact (HQ.drewN _).drewN _); rintro e w2 ⟨rfl, hrd, hgr⟩; have HRD := Lib.hid hrd; have HGR := Lib.hid hgr; clear hrd hgr)
      go_ret
      rw [HFR.out]
      exact ⟨p, true, rfl, ⟨rfl, HP.out.1⟩, HRD, grw_trans HGr.out HGR.out⟩
end Pen
end Go.Proofs.YtlhalhilnkneeaaGreatDoor
end
section
namespace Go.Proofs.YtlhalhilnkneeaaGreatDoor
open Go.RowKit
namespace Pen
theorem st2_none {S : ByteArray} {p : Nat} {b : Bool} (h : st2 S p b = none) : b = true := by cases b with | true => rfl | false => cases h
theorem st2_some {S : ByteArray} {p : Nat} {b : Bool} {l : List UInt8} (h : st2 S p b = some l) : b = false := by cases b with | false => rfl | true => cases h
theorem rword_any (g : Nat) (S : ByteArray) (p : Nat) (bad : Bool) (hp : p ≤ S.size) (hs : S.size ≤ 1000000000) (w : World) (h : RrAt w g S p bad) :
    Calls Tryz.prog 125 #[.pointer (some ⟨g, 0, none⟩)] w (RrOut g S w .u64 (rdO (st2 S p bad))) := by
  cases bad with
  | true => exact rword_bad g S p hp w h
  | false => exact rword_good g S p hp hs w h
theorem below_dN {a b : World} {k : Nat} (h : Below k a b) (n : Nat) : Below k a (b.drewN n) := ⟨h.os, h.tape, h.output, h.size, h.block⟩
/-- What is made of a word. -/
def capped (most : Int) (r : Int × Option (List UInt8)) : Int × Option (List UInt8) := if (9223372036854775807 : Int) < r.1 ∨ most < r.1 ∨ r.2 = none then (0, none) else r
theorem capped_rdO (most : Int) (o : Option (List UInt8)) : capped most (rdO o) = uintS most o := by
  cases o with
  | none => simp [capped, rdO, uintS]
  | some l =>
    unfold rdO uintS
    simp only
    cases rd l with
    | none => simp [capped]
    | some r =>
      obtain ⟨n, l'⟩ := r
      simp only [capped]
      simp
theorem rdO_low (o : Option (List UInt8)) : 0 ≤ (rdO o).1 := by
  cases o with
  | none => decide
  | some l =>
    unfold rdO
    simp only
    cases rd l with
    | none => decide
    | some r => exact Int.natCast_nonneg _
set_option maxRecDepth 100000 in
set_option maxHeartbeats 2000000 in
theorem rrUint_any (g : Nat) (S : ByteArray) (p : Nat) (bad : Bool) (most : Int) (hp : p ≤ S.size) (hs : S.size ≤ 1000000000) (w : World) (h : RrAt w g S p bad) :
    Calls Tryz.prog 91 #[.pointer (some ⟨g, 0, none⟩), .int .i64 most] w (RrOut g S w .i64 (uintS most (st2 S p bad))) := by
  have CW := Lib.hid (rword_any g S p bad hp hs w h)
  have CF : Hid (∀ (w1 : World) (p1 : Nat) (b1 : Bool), RrAt w1 g S p1 b1 → _) := fun w1 p1 b1 h1 => rfails_any g S p1 b1 w1 h1
  rw [← capped_rdO]
  have n0 := rdO_low (st2 S p bad)
  generalize rdO (st2 S p bad) = r at CW n0
  obtain ⟨NI, o⟩ := r
  simp only at n0
  clear h hp hs
  by_cases hc1 : (9223372036854775807 : Int) < NI
  · have HU : Hid (capped most (NI, o) = (0, none)) := by show _ = _; unfold capped; rw [if_pos (.inl hc1)]
    rw [HU.out]
    have d1 : decide ((9223372036854775807 : Int) < NI) = true := decide_eq_true hc1
    clear hc1 n0
    cases o with
    | none =>
      go_enter Tryz.func91, Tryz.ntmps91
      go_wp2_with (first
        | (go_at_call 125; (with_reducible refine CW.out.mono ?_); rintro e w1 ⟨p', bad', rfl, hst, H1, G1⟩; (obtain rfl : bad' = true := st2_none hst.out.1); have c2 := H1.out.cells.2.2)
        | (go_at_call 126; (with_reducible refine (CF.out _ _ _ H1.out).mono ?_); rintro e w2 ⟨rfl, hrd, hgr⟩; have HRD := Lib.hid hrd; have HGR := Lib.hid (grw_trans G1.out hgr); clear hrd hgr))
      go_ret
      exact ⟨p', true, rfl, ⟨rfl, hst.out.2⟩, HRD, HGR⟩
    | some l =>
      go_enter Tryz.func91, Tryz.ntmps91
      go_wp2_with (first
        | (go_at_call 125; (with_reducible refine CW.out.mono ?_); rintro e w1 ⟨p', bad', rfl, hst, H1, G1⟩; (obtain rfl : bad' = false := st2_some hst.out.1); have c2 := H1.out.cells.2.2)
        | (go_at_call 126; (with_reducible refine (CF.out _ _ _ H1.out).mono ?_); rintro e w2 ⟨rfl, hrd, hgr⟩; have HRD := Lib.hid hrd; have HGR := Lib.hid (grw_trans G1.out hgr); clear hrd hgr))
      go_ret
      exact ⟨p', true, rfl, ⟨rfl, hst.out.2⟩, HRD, HGR⟩
  · have d1 : decide ((9223372036854775807 : Int) < NI) = false := decide_eq_false hc1
    have e1 : wrap64 NI = NI := by unfold wrap64; omega
    have e2 : IntKind.i64.wrap NI = NI := by rw [IntKind.wrap_i64]; omega
    by_cases hc2 : most < NI
    · have HU : Hid (capped most (NI, o) = (0, none)) := by show _ = _; unfold capped; rw [if_pos (.inr (.inl hc2))]
      rw [HU.out]
      have d2 : decide (most < NI) = true := decide_eq_true hc2
      clear hc1 n0 hc2
      cases o with
      | none =>
        go_enter Tryz.func91, Tryz.ntmps91
        go_wp2_with (first
          | (go_at_call 125; (with_reducible refine CW.out.mono ?_); rintro e w1 ⟨p', bad', rfl, hst, H1, G1⟩; (obtain rfl : bad' = true := st2_none hst.out.1); have c2 := H1.out.cells.2.2)
          | (go_at_call 126; (with_reducible refine (CF.out _ _ _ H1.out).mono ?_); rintro e w2 ⟨rfl, hrd, hgr⟩; have HRD := Lib.hid hrd; have HGR := Lib.hid (grw_trans G1.out hgr); clear hrd hgr))
        go_ret
        exact ⟨p', true, rfl, ⟨rfl, hst.out.2⟩, HRD, HGR⟩
      | some l =>
        go_enter Tryz.func91, Tryz.ntmps91
        go_wp2_with (first
          | (go_at_call 125; (with_reducible refine CW.out.mono ?_); rintro e w1 ⟨p', bad', rfl, hst, H1, G1⟩; (obtain rfl : bad' = false := st2_some hst.out.1); have c2 := H1.out.cells.2.2)
          | (go_at_call 126; (with_reducible refine (CF.out _ _ _ H1.out).mono ?_); rintro e w2 ⟨rfl, hrd, hgr⟩; have HRD := Lib.hid hrd; have HGR := Lib.hid (grw_trans G1.out hgr); clear hrd hgr))
        go_ret
        exact ⟨p', true, rfl, ⟨rfl, hst.out.2⟩, HRD, HGR⟩
    · have d2 : decide (most < NI) = false := decide_eq_false hc2
      cases o with
      | none =>
        have HU : Hid (capped most (NI, none) = (0, none)) := by show _ = _; unfold capped; rw [if_pos (.inr (.inr rfl))]
        rw [HU.out]
        clear hc1 n0 hc2
        go_enter Tryz.func91, Tryz.ntmps91
        go_wp2_with (first
          | (go_at_call 125; (with_reducible refine CW.out.mono ?_); rintro e w1 ⟨p', bad', rfl, hst, H1, G1⟩; (obtain rfl : bad' = true := st2_none hst.out.1); have c2 := H1.out.cells.2.2)
          | (go_at_call 126; (with_reducible refine (CF.out _ _ _ H1.out).mono ?_); rintro e w2 ⟨rfl, hrd, hgr⟩; have HRD := Lib.hid hrd; have HGR := Lib.hid (grw_trans G1.out hgr); clear hrd hgr))
        go_ret
        exact ⟨p', true, rfl, ⟨rfl, hst.out.2⟩, HRD, HGR⟩
      | some l =>
        have HU : Hid (capped most (NI, some l) = (NI, some l)) := by show _ = _; unfold capped; rw [if_neg (by rintro (h | h | h); exact hc1 h; exact hc2 h; cases h)]
        rw [HU.out]
        clear hc1 n0 hc2
        go_enter Tryz.func91, Tryz.ntmps91
        go_wp2_with (first
          | (go_at_call 125; (with_reducible refine CW.out.mono ?_); rintro e w1 ⟨p', bad', rfl, hst, H1, G1⟩; (obtain rfl : bad' = false := st2_some hst.out.1); have c2 := H1.out.cells.2.2)
          | (go_at_call 126; (with_reducible refine (CF.out _ _ _ H1.out).mono ?_); rintro e w2 ⟨rfl, hrd, hgr⟩; have HRD := Lib.hid hrd; have HGR := Lib.hid (grw_trans G1.out hgr); clear hrd hgr))
        go_ret
        exact ⟨p', false, rfl, hst, H1, G1⟩
set_option maxRecDepth 100000 in
theorem rrDone_any (g : Nat) (S : ByteArray) (p : Nat) (bad : Bool) (hp : p ≤ S.size) (w : World) (h : RrAt w g S p bad) :
    Calls Tryz.prog 94 #[.pointer (some ⟨g, 0, none⟩)] w fun e w' => e = .returned (.bool (doneS (st2 S p bad))) ∧ Below w.heap.size w w' := by
  obtain ⟨c0, c1, c2⟩ := h.cells
  clear h
  cases bad with
  | true =>
    have HU : Hid (doneS (st2 S p true) = false) := rfl
    rw [HU.out]
    go_enter Tryz.func94, Tryz.ntmps94
    go_wp2
    go_quiet (fail)
    go_wp2
    go_ret
    exact ⟨rfl, below_dN (Below.refl _ _) _⟩
  | false =>
    by_cases he : p = S.size
    · have HU : Hid (doneS (st2 S p false) = true) := by
        show (S.data.toList.drop p).isEmpty = true
        rw [List.drop_eq_nil_of_le (by simp; omega)]
        rfl
      rw [HU.out]
      have hb : ((p : Int) == (S.size : Int)) = true := by rw [he]; exact beq_self_eq_true _
      have hb2 : (p == S.size) = true := by rw [he]; exact beq_self_eq_true _
      clear he hp
      go_enter Tryz.func94, Tryz.ntmps94
      go_wp2
      go_quiet (fail)
      go_wp2
      go_ret
      exact ⟨rfl, below_dN (Below.refl _ _) _⟩
    · have HU : Hid (doneS (st2 S p false) = false) := by
        show (S.data.toList.drop p).isEmpty = false
        rw [List.isEmpty_eq_false_iff]
        intro h
        have := congrArg List.length h
        simp at this
        omega
      rw [HU.out]
      have hb : ((p : Int) == (S.size : Int)) = false := beq_eq_false_iff_ne.2 (by omega)
      have hb2 : (p == S.size) = false := beq_eq_false_iff_ne.2 he
      clear he hp
      go_enter Tryz.func94, Tryz.ntmps94
      go_wp2
      go_quiet (fail)
      go_wp2
      go_ret
      exact ⟨rfl, below_dN (Below.refl _ _) _⟩
end Pen
end Go.Proofs.YtlhalhilnkneeaaGreatDoor
end
section
namespace Go.Proofs.YtlhalhilnkneeaaGreatDoor
open Go.RowKit
namespace Pen
theorem rdF_wbF (f : Nat) : ∀ (k a n : Nat) (l : List UInt8), f + k = 9 → n < 2 ^ (7 * f + 1) → (0 < k → 0 < n) → rdF (f + 1) k a (wbF f n ++ l) = some (a + n * 2 ^ (7 * k), l) := by
  induction f with
  | zero =>
    intro k a n l hk hn h0
    have hk9 : k = 9 := by omega
    subst hk9
    have hn1 : n = 1 := by have := h0 (by omega); simp at hn; omega
    subst hn1
    show rdF 1 9 a (UInt8.ofNat 1 :: l) = _
    rw [rdF, if_neg (by decide), if_pos (by decide)]
    rfl
  | succ f ih =>
    intro k a n l hk hn h0
    rw [wbF]
    by_cases hc : n < 128
    · rw [if_pos hc]
      have hb : (UInt8.ofNat n).toNat = n := by rw [UInt8.toNat_ofNat']; omega
      show rdF (f + 2) k a (UInt8.ofNat n :: l) = _
      rw [rdF, if_neg (fun h => by
        rcases h with ⟨h1, h2⟩ | ⟨h1, _⟩
        · have := h0 h2
          have h3 := congrArg UInt8.toNat h1
          rw [hb] at h3
          change n = 0 at h3
          omega
        · omega), if_pos (by rw [hb]; exact hc), hb, Nat.mod_eq_of_lt hc]
    · rw [if_neg hc]
      have hb : (UInt8.ofNat (128 + n % 128)).toNat = 128 + n % 128 := by rw [UInt8.toNat_ofNat']; omega
      show rdF (f + 2) k a (UInt8.ofNat (128 + n % 128) :: (wbF f (n / 128) ++ l)) = _
      have hpow : 2 ^ (7 * (f + 1) + 1) = 2 ^ (7 * f + 1) * 128 := by rw [show 7 * (f + 1) + 1 = 7 * f + 1 + 7 by omega, Nat.pow_add]
      rw [rdF, if_neg (fun h => by
        rcases h with ⟨h1, h2⟩ | ⟨h1, _⟩
        · have h3 := congrArg UInt8.toNat h1
          rw [hb] at h3
          change 128 + n % 128 = 0 at h3
          omega
        · omega), if_neg (by rw [hb]; omega), ih (k + 1) _ (n / 128) l (by omega) (by rw [hpow] at hn; exact Nat.div_lt_of_lt_mul (by rw [Nat.mul_comm]; exact hn)) (fun _ => by omega), hb]
      have hp2 : 2 ^ (7 * (k + 1)) = 128 * 2 ^ (7 * k) := by rw [show 7 * (k + 1) = 7 + 7 * k by omega, Nat.pow_add]
      have e1 : (128 + n % 128) % 128 = n % 128 := by omega
      rw [e1, hp2]
      have e2 : n * 2 ^ (7 * k) = (n % 128 + n / 128 * 128) * 2 ^ (7 * k) := by rw [Nat.mod_add_div' n 128]
      rw [e2, Nat.add_mul, Nat.mul_assoc (n / 128), Nat.add_assoc]
theorem rd_wb (n : Nat) (hn : n < 2 ^ 64) (l : List UInt8) : rd (wb n ++ l) = some (n, l) := by
  have := rdF_wbF 9 0 0 n l rfl hn (fun h => by omega)
  rw [Nat.mul_zero, Nat.pow_zero, Nat.mul_one, Nat.zero_add] at this
  exact this
theorem rdF_back (f : Nat) : ∀ (k a : Nat) (l : List UInt8) (m : Nat) (l' : List UInt8), f + k = 9 → rdF (f + 1) k a l = some (m, l') → ∃ n, m = a + n * 2 ^ (7 * k) ∧ l = wbF f n ++ l' ∧ (0 < k → 0 < n) := by
  induction f with
  | zero =>
    intro k a l m l' hk h
    have hk9 : k = 9 := by omega
    subst hk9
    cases l with
    | nil => cases h
    | cons b l =>
      rw [rdF] at h
      split at h
      · cases h
      · rename_i hc
        have hb0 : b ≠ 0 := fun e => hc (.inl ⟨e, by omega⟩)
        have hb1 : ¬ 1 < b.toNat := fun e => hc (.inr ⟨rfl, e⟩)
        have hbn : b.toNat ≠ 0 := fun e => hb0 (UInt8.toNat_inj.1 e)
        have hb : b.toNat = 1 := by omega
        have hbe : b = 1 := UInt8.toNat_inj.1 hb
        subst hbe
        rw [if_pos (by decide)] at h
        cases h
        exact ⟨1, rfl, rfl, fun _ => by omega⟩
  | succ f ih =>
    intro k a l m l' hk h
    cases l with
    | nil => cases h
    | cons b l =>
      have hlt := b.toNat_lt
      rw [rdF] at h
      split at h
      · cases h
      · rename_i hc
        split at h
        · rename_i hb
          cases h
          refine ⟨b.toNat, by rw [Nat.mod_eq_of_lt hb], ?_, fun h0 => ?_⟩
          · rw [wbF, if_pos hb]
            show _ = UInt8.ofNat b.toNat :: l'
            rw [UInt8.ofNat_toNat]
          · have : b.toNat ≠ 0 := fun e => hc (.inl ⟨UInt8.toNat_inj.1 e, h0⟩)
            omega
        · rename_i hb
          obtain ⟨n, hm, hl, h0⟩ := ih (k + 1) _ l m l' (by omega) h
          have hn := h0 (by omega)
          refine ⟨b.toNat % 128 + 128 * n, ?_, ?_, fun _ => by omega⟩
          · have hp2 : 2 ^ (7 * (k + 1)) = 128 * 2 ^ (7 * k) := by rw [show 7 * (k + 1) = 7 + 7 * k by omega, Nat.pow_add]
            rw [hm, hp2, Nat.add_mul, Nat.mul_comm 128 n, Nat.mul_assoc, Nat.add_assoc]
          · have e1 : (b.toNat % 128 + 128 * n) % 128 = b.toNat % 128 := by omega
            have e2 : (b.toNat % 128 + 128 * n) / 128 = n := by omega
            rw [wbF, if_neg (by omega), e1, e2, hl]
            have e3 : 128 + b.toNat % 128 = b.toNat := by omega
            rw [e3, UInt8.ofNat_toNat]
            rfl
theorem rd_back {l : List UInt8} {n : Nat} {l' : List UInt8} (h : rd l = some (n, l')) : l = wb n ++ l' := by
  obtain ⟨m, h1, h2, _⟩ := rdF_back 9 0 0 l n l' rfl h
  have : m = n := by rw [h1]; simp
  subst this
  exact h2
theorem uint_put (most n : Int) (h0 : 0 ≤ n) (hm : n ≤ most) (hi : n ≤ 9223372036854775807) (l : List UInt8) : uintS most (some (uintB n ++ l)) = (n, some l) := by
  unfold uintS uintB
  rw [if_neg (by omega)]
  have e : ((n.toNat : Nat) : Int) = n := Int.toNat_of_nonneg h0
  simp only [rd_wb n.toNat (by omega) l]
  rw [if_neg (by omega), e]
theorem uint_back {most : Int} {o : Option (List UInt8)} {l' : List UInt8} (h : (uintS most o).2 = some l') : o = some (uintB (uintS most o).1 ++ l') := by
  cases o with
  | none => cases h
  | some l =>
    cases hr : rd l with
    | none => simp only [uintS, hr] at h; cases h
    | some r =>
      obtain ⟨n, t⟩ := r
      have hb := rd_back hr
      simp only [uintS, hr] at h ⊢
      split at h
      · cases h
      · rename_i hc
        rw [if_neg hc]
        cases h
        show some l = some (uintB (n : Int) ++ l')
        rw [hb]
        unfold uintB
        rw [if_neg (by omega)]
        rfl
theorem uint_none (most : Int) : uintS most none = (0, none) := rfl
theorem uint_bounds (most : Int) (o : Option (List UInt8)) (h : 0 ≤ most) : 0 ≤ (uintS most o).1 ∧ (uintS most o).1 ≤ most ∧ (uintS most o).1 ≤ 9223372036854775807 := by
  unfold uintS
  split
  · simp; exact h
  · split
    · simp; exact h
    · split
      · simp; exact h
      · rename_i hc; simp only; omega
end Pen
end Go.Proofs.YtlhalhilnkneeaaGreatDoor
end
section
namespace Go.Proofs.YtlhalhilnkneeaaGreatDoor
open Go.RowKit
namespace Pen
/-- A number's place. -/
def zig (n : Int) : Nat := if 0 ≤ n then (2 * n).toNat else (2 * (-(n + 1)) + 1).toNat
/-- The number of a place. -/
def zag (m : Nat) : Int := if m % 2 = 0 then ((m / 2 : Nat) : Int) else -((m / 2 : Nat) : Int) - 1
def I64 (n : Int) : Prop := -9223372036854775808 ≤ n ∧ n ≤ 9223372036854775807
theorem zag_zig (n : Int) : zag (zig n) = n := by
  unfold zig zag
  split <;> split <;> omega
theorem zig_zag (m : Nat) : zig (zag m) = m := by
  unfold zig zag
  split <;> split <;> omega
theorem zig_lt {n : Int} (h : I64 n) : zig n < 18446744073709551616 := by
  unfold I64 at h
  unfold zig
  split <;> omega
theorem zag_in {m : Nat} (h : m < 18446744073709551616) : I64 (zag m) := by
  unfold I64 zag
  split <;> omega
def intB (n : Int) : List UInt8 := wb (zig n)
def intS : Option (List UInt8) → Int × Option (List UInt8)
  | none => (0, none)
  | some l => match rd l with
    | none => (0, none)
    | some (m, l') => (zag m, some l')
theorem int_put {n : Int} (h : I64 n) (l : List UInt8) : intS (some (intB n ++ l)) = (n, some l) := by
  unfold intS intB
  simp only [rd_wb (zig n) (by have := zig_lt h; omega) l, zag_zig]
theorem int_back {o : Option (List UInt8)} {l' : List UInt8} (h : (intS o).2 = some l') : o = some (intB (intS o).1 ++ l') := by
  cases o with
  | none => cases h
  | some l =>
    cases hr : rd l with
    | none => simp only [intS, hr] at h; cases h
    | some r =>
      obtain ⟨m, t⟩ := r
      have hb := rd_back hr
      simp only [intS, hr] at h ⊢
      cases h
      unfold intB
      rw [zig_zag, ← hb]
theorem int_in (o : Option (List UInt8)) : I64 (intS o).1 := by
  unfold intS
  split
  · exact ⟨by decide, by decide⟩
  · split
    · exact ⟨by decide, by decide⟩
    · rename_i hr
      have := rd_small hr
      exact zag_in (by omega)
theorem intB_len (n : Int) : (intB n).length ≤ 10 := by have := wbF_len 9 (zig n); unfold intB wb; omega
-- bits
theorem xor_ones (a : Nat) (h : a < 18446744073709551616) : a ^^^ 18446744073709551615 = 18446744073709551615 - a := by
  have h1 : (BitVec.ofNat 64 a ^^^ BitVec.allOnes 64) = ~~~ (BitVec.ofNat 64 a) := BitVec.xor_allOnes
  have h2 := congrArg BitVec.toNat h1
  rw [BitVec.toNat_xor, BitVec.toNat_not, BitVec.toNat_ofNat, BitVec.toNat_allOnes] at h2
  rw [Nat.mod_eq_of_lt (by omega)] at h2
  simpa using h2
theorem u64_nat (a : Nat) : IntKind.u64.wrap (a : Int) = ((a % 18446744073709551616 : Nat) : Int) := by rw [IntKind.wrap_u64]; omega
theorem xor_bits (a b : Nat) : bits .xor .u64 (a : Int) (b : Int) = (((a % 18446744073709551616) ^^^ (b % 18446744073709551616) : Nat) : Int) := by
  show IntKind.u64.wrap (((BitVec.ofInt 64 (a : Int)) ^^^ (BitVec.ofInt 64 (b : Int))).toNat : Int) = _
  have ha : BitVec.ofInt 64 (a : Int) = BitVec.ofNat 64 a := BitVec.ofInt_natCast 64 a
  have hb : BitVec.ofInt 64 (b : Int) = BitVec.ofNat 64 b := BitVec.ofInt_natCast 64 b
  rw [ha, hb, BitVec.toNat_xor, BitVec.toNat_ofNat, BitVec.toNat_ofNat, u64_nat]
  have : (a % 2 ^ 64) ^^^ (b % 2 ^ 64) < 2 ^ 64 := Nat.xor_lt_two_pow (Nat.mod_lt _ (by decide)) (Nat.mod_lt _ (by decide))
  rw [Nat.mod_eq_of_lt (by simpa using this)]
theorem zig_bits {n : Int} (h : I64 n) : bits .xor .u64 (IntKind.u64.wrap (IntKind.u64.wrap n * 2)) (IntKind.u64.wrap (n / 9223372036854775808)) = (zig n : Int) := by
  obtain ⟨h1, h2⟩ := h
  by_cases h0 : 0 ≤ n
  · have e1 : IntKind.u64.wrap (IntKind.u64.wrap n * 2) = ((2 * n).toNat : Int) := by rw [IntKind.wrap_u64, IntKind.wrap_u64]; omega
    have e2 : IntKind.u64.wrap (n / 9223372036854775808) = ((0 : Nat) : Int) := by rw [IntKind.wrap_u64]; omega
    rw [e1, e2, xor_bits]
    unfold zig
    rw [if_pos h0]
    simp
    omega
  · have e1 : IntKind.u64.wrap (IntKind.u64.wrap n * 2) = ((18446744073709551615 - (2 * (-(n + 1)) + 1).toNat : Nat) : Int) := by rw [IntKind.wrap_u64, IntKind.wrap_u64]; omega
    have e2 : IntKind.u64.wrap (n / 9223372036854775808) = ((18446744073709551615 : Nat) : Int) := by rw [IntKind.wrap_u64]; omega
    rw [e1, e2, xor_bits]
    unfold zig
    rw [if_neg h0]
    have hm : (18446744073709551615 - (2 * (-(n + 1)) + 1).toNat) % 18446744073709551616 = 18446744073709551615 - (2 * (-(n + 1)) + 1).toNat := Nat.mod_eq_of_lt (by omega)
    have hk : (18446744073709551615 : Nat) % 18446744073709551616 = 18446744073709551615 := by decide
    rw [hm, hk, xor_ones _ (by omega)]
    omega
set_option maxRecDepth 100000 in
theorem int_any (n : Int) (hn : I64 n) (w : World) :
    Calls Tryz.prog 73 #[.int .i64 n] w fun e w' => e = .returned (.string (bs (intB n))) ∧ Below w.heap.size w w' := by
  have CW : Hid (∀ w, _) := fun w => word_any (zig n) (zig_lt hn) w
  have HZ := Lib.hid (zig_bits hn)
  obtain ⟨hl, hh⟩ := hn
  unfold intB
  go_enter Tryz.func73, Tryz.ntmps73
  go_wp2_with (rw [HZ.out]; go_at_call 114; (with_reducible refine (CW.out _).mono ?_); rintro e w1 ⟨rfl, hb1⟩; have HB1 := Lib.hid hb1; clear hb1)
  go_ret
  exact ⟨rfl, HB1.out⟩
set_option maxRecDepth 100000 in
theorem refInt_any (n : Int) (hn : I64 n) (w : World) :
    Calls Tryz.prog 88 #[.int .i64 n] w fun e w' => e = .returned (.string (bs (intB n))) ∧ Below w.heap.size w w' := by
  have CP : Hid (∀ w, Calls Tryz.prog 122 #[.int .i64 n] w fun e w' => e = .returned (.int .u64 (zig n : Int)) ∧ w = w') := fun w => by
    obtain ⟨hl, hh⟩ := hn
    by_cases h0 : 0 ≤ n
    · have e1 : IntKind.u64.wrap n = n := by rw [IntKind.wrap_u64]; omega
      have e2 : IntKind.u64.wrap (2 * n) = 2 * n := by rw [IntKind.wrap_u64]; omega
      have HZ : Hid (((zig n : Nat) : Int) = 2 * n) := by show _ = _; unfold zig; rw [if_pos h0]; omega
      rw [HZ.out]
      go_enter Tryz.func122, Tryz.ntmps122
      go_wp2
      go_ret
      exact ⟨by simp [e1, e2], rfl⟩
    · have e1 : IntKind.i64.wrap (n + 1) = n + 1 := by rw [IntKind.wrap_i64]; omega
      have e2 : IntKind.i64.wrap (-(n + 1)) = -(n + 1) := by rw [IntKind.wrap_i64]; omega
      have e3 : IntKind.u64.wrap (-(n + 1)) = -(n + 1) := by rw [IntKind.wrap_u64]; omega
      have e4 : IntKind.u64.wrap (2 * -(n + 1)) = 2 * -(n + 1) := by rw [IntKind.wrap_u64]; omega
      have e5 : IntKind.u64.wrap (2 * -(n + 1) + 1) = 2 * -(n + 1) + 1 := by rw [IntKind.wrap_u64]; omega
      have HZ : Hid (((zig n : Nat) : Int) = 2 * -(n + 1) + 1) := by show _ = _; unfold zig; rw [if_neg h0]; omega
      rw [HZ.out]
      go_enter Tryz.func122, Tryz.ntmps122
      go_wp2
      go_ret
      exact ⟨rfl, rfl⟩
  have CR : Hid (∀ w, Calls Tryz.prog 121 #[.int .u64 (zig n : Int)] w fun e w' => e = .returned (.string (bs (wb (zig n)))) ∧ Below w.heap.size w w') := fun w => refWord_any 9 (zig n) (by have := zig_lt hn; omega) (by omega) w
  unfold intB
  generalize wb (zig n) = B at *
  go_enter Tryz.func88, Tryz.ntmps88
  go_wp2_with (first
    | (go_at_call 122; (with_reducible refine (CP.out _).mono ?_); rintro e w1 ⟨rfl, rfl⟩)
    | (go_at_call 121; (with_reducible refine (CR.out _).mono ?_); rintro e w2 ⟨rfl, hb2⟩; have HB2 := Lib.hid hb2; clear hb2))
  go_ret
  exact ⟨rfl, HB2.out⟩
end Pen
end Go.Proofs.YtlhalhilnkneeaaGreatDoor
end
