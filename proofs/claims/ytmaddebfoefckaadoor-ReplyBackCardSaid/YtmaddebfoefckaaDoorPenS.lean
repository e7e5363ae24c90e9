/- Bytes read as numbers: the reference's reader. -/
import Derived.Test.YtmaddebfoefckaaDoorPenR2
import Derived.Deep.QuietTactic
import Derived.BigQuiet
namespace Go.Proofs.YtmaddebfoefckaaDoor
open Go.RowKit
namespace Pen
/-- The reference's reader's cells. -/
def rrc (S : ByteArray) (p : Nat) (bad : Bool) (i : Nat) : Value := if i = 0 then .string S else if i = 1 then .int .i64 (p : Int) else .bool bad
def RrAt (w : World) (g : Nat) (S : ByteArray) (p : Nat) (bad : Bool) : Prop := w.rowIs g 44 3 (rrc S p bad)
/-- What is left; none: it is bad. -/
def st2 (S : ByteArray) (p : Nat) (bad : Bool) : Option (List UInt8) := if bad then none else some (S.data.toList.drop p)
namespace RrAt
variable {w : World} {g p : Nat} {S : ByteArray} {bad : Bool}
theorem cells (h : RrAt w g S p bad) : w.cell? ⟨g, 0, none⟩ = some (.string S) ∧ w.cell? ⟨g, 1, none⟩ = some (.int .i64 (p : Int)) ∧ w.cell? ⟨g, 2, none⟩ = some (.bool bad) :=
  ⟨h.cell (by decide), h.cell (by decide), h.cell (by decide)⟩
theorem setBad (h : RrAt w g S p bad) : RrAt (w.setCell ⟨g, 2, none⟩ (.bool true)) g S p true :=
  (World.rowIs.set h 2 _).congr fun i hi => by
    unfold rrc
    by_cases e : i = 2
    · rw [if_pos e, if_neg (by omega), if_neg (by omega)]
    · rw [if_neg e]
      by_cases e0 : i = 0
      · rw [if_pos e0, if_pos e0]
      · rw [if_neg e0, if_neg e0, if_pos (by omega), if_pos (by omega)]
theorem setAt (h : RrAt w g S p bad) (q : Nat) : RrAt (w.setCell ⟨g, 1, none⟩ (.int .i64 (q : Int))) g S q bad :=
  (World.rowIs.set h 1 _).congr fun i hi => by
    unfold rrc
    by_cases e : i = 1
    · rw [if_pos e, if_neg (by omega), if_pos e]
    · rw [if_neg e]
      by_cases e0 : i = 0
      · rw [if_pos e0, if_pos e0]
      · rw [if_neg e0, if_neg e0, if_neg e, if_neg e]
theorem drewN (h : RrAt w g S p bad) (q : Nat) : RrAt (w.drewN q) g S p bad := h
theorem drew (h : RrAt w g S p bad) : RrAt w.drew g S p bad := h
end RrAt
theorem grw_dN {a b : World} {g : Nat} (h : a.grownBy b (some g)) (n : Nat) : a.grownBy (b.drewN n) (some g) := ⟨h.os, h.tape, h.output, h.size, h.block⟩
theorem grw_d {a b : World} {g : Nat} (h : a.grownBy b (some g)) : a.grownBy b.drew (some g) := ⟨h.os, h.tape, h.output, h.size, h.block⟩
theorem rfails_any (g : Nat) (S : ByteArray) (p : Nat) (bad : Bool) (w : World) (h : RrAt w g S p bad) :
    Calls Tryd.prog 38 #[.pointer (some ⟨g, 0, none⟩)] w fun e w' => e = .returned (.int .u64 0) ∧ RrAt w' g S p true ∧ w.grownBy w' (some g) := by
  obtain ⟨c0, c1, c2⟩ := h.cells
  have f1 := World.rowIs.frozen h 2
  have HS := Lib.hid h.setBad
  clear h
  go_enter Tryd.func38, Tryd.ntmps38
  go_wp2
  go_ret
  exact ⟨rfl, HS.out, grw_set _ _ _ _⟩
/-- What the reference's word leaves. -/
def RrOut (g : Nat) (S : ByteArray) (w : World) (k : IntKind) (r : Int × Option (List UInt8)) (e : Ending) (w' : World) : Prop :=
  ∃ (p' : Nat) (bad' : Bool), e = .returned (.int k r.1) ∧ Hid (st2 S p' bad' = r.2 ∧ p' ≤ S.size) ∧ Hid (RrAt w' g S p' bad') ∧ Hid (w.grownBy w' (some g))
def rdO (o : Option (List UInt8)) : Int × Option (List UInt8) := match o with
  | none => (0, none)
  | some l => match rd l with
    | none => (0, none)
    | some (n, l') => ((n : Int), some l')
set_option maxRecDepth 100000 in
theorem rword_bad (g : Nat) (S : ByteArray) (p : Nat) (hp : p ≤ S.size) (w : World) (h : RrAt w g S p true) :
    Calls Tryd.prog 37 #[.pointer (some ⟨g, 0, none⟩)] w (RrOut g S w .u64 (0, none)) := by
  have CF : Hid (∀ w1 : World, RrAt w1 g S p true → _) := fun w1 h1 => rfails_any g S p true w1 h1
  have HQ := h
  obtain ⟨c0, c1, c2⟩ := h.cells
  have HP := Lib.hid hp
  clear h hp
  go_enter Tryd.func37, Tryd.ntmps37
  go_wp2
  go_loopg [3, 4] 1 (fun gk v3 v4 wr => v3 = .int .u64 0 ∧ v4 = .int .i64 0 ∧ wr = w)
  case atStart => exact ⟨rfl, rfl, rfl⟩
  case round =>
    obtain ⟨rfl, rfl, rfl⟩ := hrel
    go_wp2
    go_quiet (fail)
    go_wp2_with (go_at_call 38; (with_reducible refine (CF.out _ ?_).mono ?_); (first | exact HQ | exact HQ.drewN _ | exact (HQ.drewN _).drewN _); rintro e w2 ⟨rfl, hrd, hgr⟩; have HRD := Lib.hid hrd; have HGR := Lib.hid hgr; clear hrd hgr)
    go_ret
    exact ⟨p, true, rfl, ⟨rfl, HP.out⟩, HRD, grw_trans (grw_dN (grw_refl _ _) _) HGR.out⟩
set_option maxRecDepth 100000 in
set_option maxHeartbeats 4000000 in
theorem rword_good (g : Nat) (S : ByteArray) (p : Nat) (hp : p ≤ S.size) (hs : S.size ≤ 1000000000) (w : World) (h : RrAt w g S p false) :
    Calls Tryd.prog 37 #[.pointer (some ⟨g, 0, none⟩)] w (RrOut g S w .u64 (rdO (some (S.data.toList.drop p)))) := by
  have CF : Hid (∀ w1 : World, RrAt w1 g S p false → _) := fun w1 h1 => rfails_any g S p false w1 h1
  have HH := Lib.hid h
  have HP : Hid (p ≤ S.size ∧ S.size ≤ 1000000000) := ⟨hp, hs⟩
  have hp1 : (p : Int) ≤ 1000000000 := by omega
  have hs1 : (S.size : Int) ≤ 1000000000 := by omega
  obtain ⟨R, hR⟩ : ∃ R, Hid (rdO (some (S.data.toList.drop p)) = R) := ⟨_, rfl⟩
  rw [hR.out]
  clear h hp hs
  go_enter Tryd.func37, Tryd.ntmps37
  go_wp2
  go_loopw [3, 4] (fun v3 v4 wr => ∃ (k n : Nat), k ≤ 10 ∧ v4 = .int .i64 (k : Int) ∧ v3 = .int .u64 (n : Int) ∧ Hid (n < 2 ^ (7 * k) ∧ rdF (10 - k) k n (S.data.toList.drop (p + k)) = rd (S.data.toList.drop p)) ∧ Hid (RrAt wr g S p false) ∧ Hid (w.grownBy wr (some g))) (fun _ v4 _ => 10 - (intOf v4).toNat)
  case atStart => exact ⟨0, 0, by omega, rfl, rfl, ⟨by decide, rfl⟩, HH, grw_refl _ _⟩
  case round =>
    obtain ⟨k, n, hk, rfl, rfl, HN, HQh, HGr⟩ := hrel
    have HQ := HQh.out
    obtain ⟨c0, c1, c2⟩ := HQ.cells
    have f1 := World.rowIs.frozen HQ 1
    replace HQ := HQ
    by_cases hlt : k < 10
    · have hlt1 : (k : Int) < 10 := by omega
      have hk0 : (0 : Int) ≤ (k : Int) := by omega
      obtain ⟨j, hj⟩ : ∃ j : Nat, Hid (p + k = j) := ⟨_, rfl⟩
      have hj1 : (p : Int) + (k : Int) = (j : Int) := by have := hj.out; omega
      have hj2 : IntKind.i64.wrap ((p : Int) + (k : Int)) = (j : Int) := by rw [IntKind.wrap_i64]; have := hj.out; omega
      have hj3 : IntKind.i64.wrap (j : Int) = (j : Int) := by rw [IntKind.wrap_i64]; have := hj.out; omega
      by_cases hjs : j < S.size
      · have hjs1 : (j : Int) < (S.size : Int) := by omega
        have hj0 : (0 : Int) ≤ (j : Int) := by omega
        have dge : decide ((S.size : Int) ≤ (j : Int)) = false := decide_eq_false (by omega)
        have dge2 : decide (S.size ≤ j) = false := decide_eq_false (by omega)
        have HST : Hid (rd (S.data.toList.drop p) = if (S[j] = 0 ∧ 0 < k) ∨ (k = 9 ∧ 1 < S[j].toNat) then none else if S[j].toNat < 128 then some (n + S[j].toNat % 128 * 2 ^ (7 * k), S.data.toList.drop (j + 1)) else rdF (9 - k) (k + 1) (n + S[j].toNat % 128 * 2 ^ (7 * k)) (S.data.toList.drop (j + 1))) := by
          have := HN.out.2
          rw [hj.out, drop_at S j hjs, show 10 - k = (9 - k) + 1 by omega, rdF_step] at this
          exact this.symm
        have hbn := (S[j]).toNat_lt
        have HZ0 : Hid (S[j] = 0 ↔ S[j].toNat = 0) := ⟨fun h => by rw [h]; rfl, fun h => by apply UInt8.toNat_inj.1; rw [h]; rfl⟩
        obtain ⟨B, hB⟩ : ∃ B : Nat, S[j].toNat = B := ⟨_, rfl⟩
        rw [hB] at HST HZ0 hbn
        obtain ⟨A, hAe⟩ : ∃ A : Int, Hid (((B % 128 : Nat) : Int) = A) := ⟨_, rfl⟩
        obtain ⟨t, ht⟩ : ∃ t : Nat, Hid (7 * k = t) := ⟨_, rfl⟩
        have ht2 : 7 * (k : Int) = (t : Int) := by have := ht.out; omega
        have ht4 : (t : Int) ≤ 64 := by have := ht.out; omega
        have ht3 : t ≤ 63 := by have := ht.out; omega
        obtain ⟨Z, hZ⟩ : ∃ Z : Int, (B : Int) = Z := ⟨_, rfl⟩
        have HBZ : Hid ((B : Int) = Z ∧ B < 256) := ⟨hZ, by omega⟩
        have hZw : IntKind.u64.wrap Z = Z := by rw [IntKind.wrap_u64]; have := HBZ.out; omega
        have hA1 : Z % 128 = A := by have := HBZ.out; have := hAe.out; omega
        have hA2 : Z.tmod 128 = A := by rw [Int.tmod_eq_emod_of_nonneg (by have := HBZ.out; omega)]; exact hA1
        have a0 : 0 ≤ A := by have := hAe.out; omega
        have z0' : 0 ≤ Z := by have := HBZ.out; omega
        by_cases hfail : (B = 0 ∧ 0 < k) ∨ (k = 9 ∧ 1 < B)
        · have HFR : Hid (R = (0, none)) := by
            show R = _
            rw [← hR.out]
            unfold rdO
            simp only
            rw [HST.out, if_pos (by rcases hfail with h | h; exact .inl ⟨HZ0.out.2 h.1, h.2⟩; exact .inr h)]
          by_cases h9 : k = 9 ∧ 1 < B
          · have dz1 : decide (1 < Z) = true := decide_eq_true (by have := HBZ.out.1; omega)
            have dk9 : ((k : Int) == 9) = true := by rw [h9.1]; rfl
            clear hfail hbn HST h9
            go_wp2
            go_quiet (fail)
            go_wp2
            go_quiet (fail)
            go_wp2_with (go_at_call 38; (with_reducible refine (CF.out _ ?_).mono ?_); (first | exact HQ | exact HQ.drewN _ | exact (HQ.drewN _).drewN _); rintro e w2 ⟨rfl, hrd, hgr⟩; have HRD := Lib.hid hrd; have HGR := Lib.hid hgr; clear hrd hgr)
            go_ret
            rw [HFR.out]
            exact ⟨p, true, rfl, ⟨rfl, HP.out.1⟩, HRD, grw_trans (grw_dN HGr.out _) HGR.out⟩
          · have hz : B = 0 ∧ 0 < k := by rcases hfail with h | h; exact h; exact absurd h h9
            have z0 : Z = 0 := by have := HBZ.out.1; omega
            have dk0 : (0 : Int) < (k : Int) := by omega
            have dk0' : 0 < k := hz.2
            subst z0
            clear hfail hz hbn HST h9
            by_cases h99 : k = 9
            · have dk9 : ((k : Int) == 9) = true := by rw [h99]; rfl
              replace h99 := Lib.hid h99
              go_wp2
              go_quiet (fail)
              go_wp2
              go_quiet (fail)
              go_wp2_with (go_at_call 38; (with_reducible refine (CF.out _ ?_).mono ?_); (first | exact HQ | exact HQ.drewN _ | exact (HQ.drewN _).drewN _); rintro e w2 ⟨rfl, hrd, hgr⟩; have HRD := Lib.hid hrd; have HGR := Lib.hid hgr; clear hrd hgr)
              go_ret
              rw [HFR.out]
              exact ⟨p, true, rfl, ⟨rfl, HP.out.1⟩, HRD, grw_trans (grw_dN HGr.out _) HGR.out⟩
            · have dk9 : ((k : Int) == 9) = false := beq_eq_false_iff_ne.2 (by omega)
              clear h99
              go_wp2
              go_quiet (fail)
              go_wp2
              go_quiet (fail)
              go_wp2_with (go_at_call 38; (with_reducible refine (CF.out _ ?_).mono ?_); (first | exact HQ | exact HQ.drewN _ | exact (HQ.drewN _).drewN _); rintro e w2 ⟨rfl, hrd, hgr⟩; have HRD := Lib.hid hrd; have HGR := Lib.hid hgr; clear hrd hgr)
              go_ret
              rw [HFR.out]
              exact ⟨p, true, rfl, ⟨rfl, HP.out.1⟩, HRD, grw_trans (grw_dN HGr.out _) HGR.out⟩
        · have hbound : n + B % 128 * 2 ^ (7 * k) < 2 ^ 64 ∧ n + B % 128 * 2 ^ (7 * k) < 2 ^ (7 * (k + 1)) := acc_bound HN.out.1 (by omega) (by omega) (fun e => by
            have : ¬ 1 < B := fun h => hfail (.inr ⟨e, h⟩)
            omega)
          have HBD := Lib.hid hbound.2
          have hwr : IntKind.u64.wrap (A * 2 ^ t) = ((B % 128 * 2 ^ (7 * k) : Nat) : Int) := by
            rw [IntKind.wrap_u64, ← hAe.out, ← ht.out, show (((B % 128 : Nat) : Int) * 2 ^ (7 * k)) = ((B % 128 * 2 ^ (7 * k) : Nat) : Int) by rw [Int.natCast_mul, Int.natCast_pow]; rfl]
            have := hbound.1
            omega
          obtain ⟨F, hF⟩ : ∃ F : Int, Hid (((B % 128 * 2 ^ (7 * k) : Nat) : Int) = F) := ⟨_, rfl⟩
          obtain ⟨N2, hN2⟩ : ∃ N2 : Nat, Hid (n + B % 128 * 2 ^ (7 * k) = N2) := ⟨_, rfl⟩
          have hsum : IntKind.u64.wrap ((n : Int) + F) = (N2 : Int) := by rw [IntKind.wrap_u64, ← hF.out, ← hN2.out]; have := hbound.1; omega
          rw [hF.out] at hwr
          rw [hN2.out] at HBD HST
          have hN63 : (N2 : Int) < 18446744073709551616 := by have := hN2.out; have := hbound.1; omega
          replace hN63 := Lib.hid hN63
          clear hbound
          by_cases h128 : B < 128
          · have HRR : Hid (R = ((N2 : Int), some (S.data.toList.drop (j + 1)))) := by
              show R = _
              rw [← hR.out]
              unfold rdO
              simp only
              rw [HST.out, if_neg (fun h => hfail (by rcases h with h | h; exact .inl ⟨HZ0.out.1 h.1, h.2⟩; exact .inr h)), if_pos h128]
            have dlast : decide (Z < 128) = true := decide_eq_true (by have := HBZ.out.1; omega)
            have hj4 : IntKind.i64.wrap ((j : Int) + 1) = ((j + 1 : Nat) : Int) := by rw [IntKind.wrap_i64]; have := hj.out; omega
            obtain ⟨J, hJ⟩ : ∃ J : Nat, Hid (j + 1 = J) := ⟨_, rfl⟩
            have HSA := Lib.hid (HQ.setAt J)
            rw [hJ.out] at HRR hj4
            have HJle : Hid (J ≤ S.size) := by have := hJ.out; show _ ≤ _; omega
            by_cases hz : B = 0
            · have z0 : Z = 0 := by have := HBZ.out.1; omega
              have hk00 : k = 0 := by
                by_cases e : k = 0
                · exact e
                · exact absurd (.inl ⟨hz, by omega⟩) hfail
              subst z0
              have dk9 : ((k : Int) == 9) = false := beq_eq_false_iff_ne.2 (by omega)
              have dkz : decide ((0 : Int) < (k : Int)) = false := decide_eq_false (by omega)
              have dkz2 : decide (0 < k) = false := decide_eq_false (by omega)
              have hkn : ¬ 0 < k := by omega
              have hnn : IntKind.u64.wrap (n : Int) = (N2 : Int) := by rw [← hsum, ← hF.out, hz]; simp
              clear hfail hz hbn HST h128 hk00 hlt hk
              go_wp2
              go_quiet (fail)
              go_wp2
              go_quiet (fail)
              go_wp2
              go_ret
              rw [HRR.out]
              exact ⟨J, false, rfl, ⟨rfl, HJle.out⟩, HSA.out, grw_trans (grw_dN HGr.out _) (grw_set _ _ _ _)⟩
            · have dz0 : (Z == 0) = false := beq_eq_false_iff_ne.2 (by have := HBZ.out.1; omega)
              by_cases hk9 : k = 9
              · have dz1 : decide (1 < Z) = false := decide_eq_false (fun h => hfail (.inr ⟨hk9, by have := HBZ.out.1; omega⟩))
                have dk9 : ((k : Int) == 9) = true := by rw [hk9]; rfl
                replace hk9 := Lib.hid hk9
                clear hfail hz hbn HST h128
                go_wp2
                go_quiet (fail)
                go_wp2
                go_quiet (fail)
                go_wp2
                go_ret
                rw [HRR.out]
                exact ⟨J, false, rfl, ⟨rfl, HJle.out⟩, HSA.out, grw_trans (grw_dN HGr.out _) (grw_set _ _ _ _)⟩
              · have dk9 : ((k : Int) == 9) = false := beq_eq_false_iff_ne.2 (by omega)
                clear hfail hz hbn HST h128 hk9
                go_wp2
                go_quiet (fail)
                go_wp2
                go_quiet (fail)
                go_wp2
                go_ret
                rw [HRR.out]
                exact ⟨J, false, rfl, ⟨rfl, HJle.out⟩, HSA.out, grw_trans (grw_dN HGr.out _) (grw_set _ _ _ _)⟩
          · have dlast : decide (Z < 128) = false := decide_eq_false (by have := HBZ.out.1; omega)
            have k9 : ¬ k = 9 := fun e => hfail (.inr ⟨e, by omega⟩)
            have dk9 : ((k : Int) == 9) = false := beq_eq_false_iff_ne.2 (by omega)
            have HNX : Hid (rdF (10 - (k + 1)) (k + 1) N2 (S.data.toList.drop (p + (k + 1))) = rd (S.data.toList.drop p)) := by
              show _ = _
              rw [HST.out, if_neg (fun h => hfail (by rcases h with h | h; exact .inl ⟨HZ0.out.1 h.1, h.2⟩; exact .inr h)), if_neg h128]
              rw [show 10 - (k + 1) = 9 - k by omega, show p + (k + 1) = j + 1 by have := hj.out; omega]
            have dz0 : (Z == 0) = false := beq_eq_false_iff_ne.2 (by have := HBZ.out.1; omega)
            clear hfail h128 hbn HST k9
            go_wp2
            go_quiet (fail)
            go_wp2
            go_quiet (fail)
            go_wp2
            go_roundw
            case rel => exact ⟨k + 1, N2, by omega, by go_num, rfl, ⟨HBD.out, HNX.out⟩, HQ.drewN _, grw_dN HGr.out _⟩
            case measure => simp [intOf]; omega
      · have HFR : Hid (R = (0, none)) := by
          show R = _
          rw [← hR.out]
          unfold rdO
          simp only
          have h1 := HN.out.2
          have h2 : rdF (10 - k) k n (S.data.toList.drop (p + k)) = none := by
            rw [List.drop_eq_nil_of_le (by have := hj.out; simp; omega)]
            cases (10 - k) <;> rfl
          rw [← h1, h2]
        have dge : decide ((S.size : Int) ≤ (j : Int)) = true := decide_eq_true (by omega)
        have dge2 : decide (S.size ≤ j) = true := decide_eq_true (by omega)
        go_wp2
        go_quiet (fail)
        go_wp2_with (go_at_call 38; (with_reducible refine (CF.out _ ?_).mono ?_); (first | exact HQ | exact HQ.drewN _ | exact (HQ.drewN _).drewN _); rintro e w2 ⟨rfl, hrd, hgr⟩; have HRD := Lib.hid hrd; have HGR := Lib.hid hgr; clear hrd hgr)
        go_ret
        rw [HFR.out]
        exact ⟨p, true, rfl, ⟨rfl, HP.out.1⟩, HRD, grw_trans (grw_dN HGr.out _) HGR.out⟩
    · have hge : ¬ (k : Int) < 10 := by omega
      have HFR : Hid (R = (0, none)) := by
        show R = _
        rw [← hR.out]
        unfold rdO
        simp only
        have h1 := HN.out.2
        have h2 : rdF (10 - k) k n (S.data.toList.drop (p + k)) = none := by
          rw [show 10 - k = 0 by omega]
          cases S.data.toList.drop (p + k) <;> rfl
        rw [← h1, h2]
      go_wp2_with (go_at_call 38; (with_reducible refine (CF.out _ ?_).mono ?_); (first | exact HQ | exact HQ.drewN _ | exact (HQ.drewN _).drewN _); rintro e w2 ⟨rfl, hrd, hgr⟩; have HRD := Lib.hid hrd; have HGR := Lib.hid hgr; clear hrd hgr)
      go_ret
      rw [HFR.out]
      exact ⟨p, true, rfl, ⟨rfl, HP.out.1⟩, HRD, grw_trans HGr.out HGR.out⟩
end Pen
end Go.Proofs.YtmaddebfoefckaaDoor
