/- Texts put together: CatR, CatM, CatM2. -/
import Derived.Test.YtiabnjmblcogmaaM09
import Derived.Laws.ResultCell
import Derived.Laws.Rows
import Derived.Laws.CopyOwn
set_option linter.all false
section
namespace Go.Proofs.Ytiabnjmblcogmaa
open Go.RowKit
namespace Cat
open Rec (BlueIn Stk Stks Came bchk inB)
open Gra (Prs deepRes ListOut)
open Pen (below2 below_al below_dN)
open In (Ints)
theorem rin_any (n f t : Int) (w : World) :
    Calls Try.prog 59 #[.int .i64 n, .int .i64 f, .int .i64 t] w fun e w' => e = .returned (.bool (inB (n, f, t))) ∧ w = w' := by
  have HI : Hid (inB (n, f, t) = (decide (f ≤ n) && decide (n ≤ t))) := rfl
  generalize inB (n, f, t) = B at *
  by_cases h1 : f ≤ n
  · by_cases h2 : n ≤ t
    · have HB : Hid (B = true) := by show B = true; rw [HI.out, decide_eq_true h1, decide_eq_true h2]; rfl
      have d1 := decide_eq_true h1
      have d2 := decide_eq_true h2
      go_enter Try.func59, Try.ntmps59
      go_wp2
      go_ret
      exact ⟨by rw [HB.out]; rfl, rfl⟩
    · have HB : Hid (B = false) := by show B = false; rw [HI.out, decide_eq_false h2]; simp
      have d1 := decide_eq_true h1
      have d2 := decide_eq_false h2
      go_enter Try.func59, Try.ntmps59
      go_wp2
      go_ret
      exact ⟨by rw [HB.out]; rfl, rfl⟩
  · have HB : Hid (B = false) := by show B = false; rw [HI.out, decide_eq_false h1]; rfl
    have d1 := decide_eq_false h1
    go_enter Try.func59, Try.ntmps59
    go_wp2
    go_ret
    exact ⟨by rw [HB.out]; rfl, rfl⟩
theorem over_some (l : List Int) (k : Nat) (h : k < l.length) (h8 : 8 < l.getD k 0) : over l = true := by
  unfold over
  rw [List.any_eq_true]
  refine ⟨l.getD k 0, ?_, decide_eq_true h8⟩
  rw [List.getD_eq_getElem?_getD, List.getElem?_eq_getElem h]
  exact List.getElem_mem _
theorem box_l {w W : World} {c : CatIn} (h : Box w c W) : w.heap.size < W.heap.size := h.2.1
theorem box_flat2 {P Q : World → Prop} (h : Hid (∀ W, Q W → P W)) {W : World} (hq : Q W) : P W := h.out W hq
theorem has_none (P : Nat → Bool) (n : Nat) (h : fst P n = -1) : decide (0 ≤ fst P n) = false := by rw [h]; rfl
theorem has_some (P : Nat → Bool) (k n : Nat) (h : fst P k = -1) (hk : P k = true) (hn : k < n) : decide (0 ≤ fst P n) = true := by rw [fst_stay P k h hk n hn]; exact decide_eq_true (by omega)
set_option maxRecDepth 100000 in
set_option maxHeartbeats 8000000 in
theorem refCheck_any (c : CatIn) (w : World) (hc : Cam w c) :
    Calls Try.prog 37 #[.agg c.val] w fun e w' => e = .returned (.int .i64 (chkC c)) ∧ Below w.heap.size w w' := by
  have HCM := Lib.hid hc
  have HS : Hid (okC c = (inB (c.types, 1, 32) && (inB (c.places, 1, 8) && (inB (c.chars, 1, 16) && (decide (c.blues.length ≤ 16) && (decide (c.bays.length ≤ 8) && (!hasBad c.blues c.types && (!hasBay c.bays c.places && Fee.okF c.fees)))))))) := rfl
  have HK : Hid (chkC c = if okC c then (if (deepRes c.types (needsOf c.blues)).2 ≠ 0 then (deepRes c.types (needsOf c.blues)).2 else if over (deepRes c.types (needsOf c.blues)).1 then 5 else 0) else 1) := rfl
  have I1 : Hid (∀ W, Calls Try.prog 59 #[.int .i64 c.types, .int .i64 1, .int .i64 32] W _) := fun W => rin_any _ _ _ W
  have I2 : Hid (∀ W, Calls Try.prog 59 #[.int .i64 c.places, .int .i64 1, .int .i64 8] W _) := fun W => rin_any _ _ _ W
  have I3 : Hid (∀ W, Calls Try.prog 59 #[.int .i64 c.chars, .int .i64 1, .int .i64 16] W _) := fun W => rin_any _ _ _ W
  have CF : Hid (∀ W, Calls Try.prog 60 #[.agg #[.int .i64 c.broker, .int .i64 c.least, .int .i64 c.sales]] W fun e w' => e = .returned (.int .i64 (if Fee.okF c.fees then 0 else 1)) ∧ Below W.heap.size W w') := fun W => Fee.refCheck_any c.fees W
  have CN : Hid (∀ W, Below w.heap.size w W → Calls Try.prog 63 #[.agg c.val] W fun e w' => ∃ v, e = .returned v ∧ Hid (w'.ownsRow (W.heap.size + 1) 28 2 v (needsOf c.blues).length (Rec.stkVals (needsOf c.blues))) ∧ Hid (Below W.heap.size W w')) := fun W h => refNeeds_any c W (hc.below h)
  have CD : Hid (∀ W a k, Prs W a (needsOf c.blues) → Calls Try.prog 62 #[.int .i64 c.types, .slice a (needsOf c.blues).length k] W (ListOut (deepRes c.types (needsOf c.blues)) W)) := fun W a k h => Gra.refDeep_core _ _ _ _ _ h
  have CB : Hid (∀ (k : Nat) (W : World), k < c.blues.length → Below w.heap.size w W → Calls Try.prog 61 #[.agg (c.blues.getD k nob).val, .int .i64 c.types] W fun e w' => e = .returned (.int .i64 (bchk (c.blues.getD k nob) c.types)) ∧ Below W.heap.size W w') := fun k W hk h => Rec.refCheck12_any _ _ W ((hc.below h).came hk)
  have HLn := Lib.hid (deepRes_len c.types (needsOf c.blues))
  have HT : Hid (inB (c.types, 1, 32) = true → 1 ≤ c.types ∧ c.types ≤ 32) := fun h => by
    unfold inB at h
    rw [Bool.and_eq_true, decide_eq_true_eq, decide_eq_true_eq] at h
    exact h
  have HB0 := Lib.hid (box_new w c 27)
  have hsm := Lib.hid hc.small
  have HBL : Hid (Blues w c.baddr c.blues ∧ Bays w c.yaddr c.bays) := ⟨hc.lies.1, hc.lies.2.1⟩
  generalize needsOf c.blues = Nd at *
  generalize deepRes c.types Nd = D at *
  obtain ⟨D, E⟩ := D
  simp only at HK HLn
  obtain ⟨nb, hnbl⟩ : ∃ nb, Hid (c.blues.length = nb) := ⟨_, rfl⟩
  obtain ⟨ny, hnyl⟩ : ∃ ny, Hid (c.bays.length = ny) := ⟨_, rfl⟩
  obtain ⟨PB, hPB⟩ : ∃ PB : Nat → Bool, Hid ((fun i => decide (bchk (c.blues.getD i nob) c.types ≠ 0)) = PB) := ⟨_, rfl⟩
  obtain ⟨PY, hPY⟩ : ∃ PY : Nat → Bool, Hid ((fun i => !okY c.places (c.bays.getD i noy)) = PY) := ⟨_, rfl⟩
  have H6 : Hid (hasBad c.blues c.types = decide (0 ≤ fst PB nb)) := by show _ = _; unfold hasBad; rw [hPB.out, hnbl.out]
  have H7 : Hid (hasBay c.bays c.places = decide (0 ≤ fst PY ny)) := by show _ = _; unfold hasBay; rw [hPY.out, hnyl.out]
  obtain ⟨R, hR⟩ : ∃ R, Hid (chkC c = R) := ⟨_, rfl⟩
  rw [hR.out] at HK ⊢
  generalize hasBad c.blues c.types = X6 at *
  generalize hasBay c.bays c.places = X7 at *
  generalize inB (c.types, 1, 32) = X1 at *
  generalize inB (c.places, 1, 8) = X2 at *
  generalize inB (c.chars, 1, 16) = X3 at *
  generalize Fee.okF c.fees = X8 at *
  generalize okC c = O at *
  have HV : Hid (c.val = #[.int .i64 c.types, .slice c.baddr nb c.bcap, .int .i64 c.places, .slice c.yaddr ny c.ycap, .int .i64 c.chars, .int .i64 c.broker, .int .i64 c.least, .int .i64 c.sales]) := by show _ = _; unfold CatIn.val; rw [hnbl.out, hnyl.out]
  rw [hnbl.out, hnyl.out] at HS
  rw [HV.out] at CN HB0 ⊢
  rw [hnbl.out] at CB
  clear hc
  cases X1
  · skip
    have HO : Hid (O = false) := by show O = _; rw [HS.out]; rfl
    have HR : Hid (R = 1) := by show R = _; rw [HK.out, HO.out]; rfl
    rw [HR.out]
    go_enter Try.func37, Try.ntmps37
    go_wp2_with (first | (go_at_call 59; ((first | (with_reducible refine (I1.out _).mono ?_) | (with_reducible refine (I2.out _).mono ?_) | (with_reducible refine (I3.out _).mono ?_)); rintro e wq ⟨rfl, rfl⟩)) | (go_at_call 60; ((with_reducible refine (CF.out _).mono ?_); rintro e w3 ⟨rfl, hb3⟩; have HB1 := Lib.hid (box_next HB0.out hb3))))
    go_ret
    exact ⟨rfl, box_b HB0.out⟩
  · skip
    cases X2
    · skip
      have HO : Hid (O = false) := by show O = _; rw [HS.out]; rfl
      have HR : Hid (R = 1) := by show R = _; rw [HK.out, HO.out]; rfl
      rw [HR.out]
      go_enter Try.func37, Try.ntmps37
      go_wp2_with (first | (go_at_call 59; ((first | (with_reducible refine (I1.out _).mono ?_) | (with_reducible refine (I2.out _).mono ?_) | (with_reducible refine (I3.out _).mono ?_)); rintro e wq ⟨rfl, rfl⟩)) | (go_at_call 60; ((with_reducible refine (CF.out _).mono ?_); rintro e w3 ⟨rfl, hb3⟩; have HB1 := Lib.hid (box_next HB0.out hb3))))
      go_ret
      exact ⟨rfl, box_b HB0.out⟩
    · skip
      cases X3
      · skip
        have HO : Hid (O = false) := by show O = _; rw [HS.out]; rfl
        have HR : Hid (R = 1) := by show R = _; rw [HK.out, HO.out]; rfl
        rw [HR.out]
        go_enter Try.func37, Try.ntmps37
        go_wp2_with (first | (go_at_call 59; ((first | (with_reducible refine (I1.out _).mono ?_) | (with_reducible refine (I2.out _).mono ?_) | (with_reducible refine (I3.out _).mono ?_)); rintro e wq ⟨rfl, rfl⟩)) | (go_at_call 60; ((with_reducible refine (CF.out _).mono ?_); rintro e w3 ⟨rfl, hb3⟩; have HB1 := Lib.hid (box_next HB0.out hb3))))
        go_ret
        exact ⟨rfl, box_b HB0.out⟩
      · skip
        by_cases hnb : nb ≤ 16
        · have dnb : decide ((16 : Int) < (nb : Int)) = false := decide_eq_false (by omega)
          have enb : ¬ (16 : Int) < (nb : Int) := by omega
          rw [decide_eq_true hnb] at HS
          by_cases hny : ny ≤ 8
          · have dny : decide ((8 : Int) < (ny : Int)) = false := decide_eq_false (by omega)
            have eny : ¬ (8 : Int) < (ny : Int) := by omega
            rw [decide_eq_true hny] at HS
            cases X8
            · skip
              have HO : Hid (O = false) := by show O = _; rw [HS.out]; cases X6 <;> cases X7 <;> rfl
              have HR : Hid (R = 1) := by show R = _; rw [HK.out, HO.out]; rfl
              rw [HR.out]
              go_enter Try.func37, Try.ntmps37
              go_wp2_with (first | (go_at_call 59; ((first | (with_reducible refine (I1.out _).mono ?_) | (with_reducible refine (I2.out _).mono ?_) | (with_reducible refine (I3.out _).mono ?_)); rintro e wq ⟨rfl, rfl⟩)) | (go_at_call 60; ((with_reducible refine (CF.out _).mono ?_); rintro e w3 ⟨rfl, hb3⟩; have HB1 := Lib.hid (box_next HB0.out hb3))))
              go_ret
              exact ⟨rfl, box_b HB1.out⟩
            · skip
              have HT2 := Lib.hid (HT.out rfl)
              have HO : Hid (O = (!X6 && !X7)) := by show O = _; rw [HS.out]; cases X6 <;> cases X7 <;> rfl
              have HFX : Hid (∀ W, Hid (Box w c W) → W.cell? ⟨w.heap.size, 0, none⟩ = some (.int .i64 c.types) ∧ W.cell? ⟨w.heap.size, 1, none⟩ = some (.slice c.baddr nb c.bcap) ∧ W.cell? ⟨w.heap.size, 2, none⟩ = some (.int .i64 c.places) ∧ W.cell? ⟨w.heap.size, 3, none⟩ = some (.slice c.yaddr ny c.ycap) ∧ W.cell? ⟨w.heap.size, 4, none⟩ = some (.int .i64 c.chars) ∧ W.cell? ⟨w.heap.size, 5, none⟩ = some (.int .i64 c.broker) ∧ W.cell? ⟨w.heap.size, 6, none⟩ = some (.int .i64 c.least) ∧ W.cell? ⟨w.heap.size, 7, none⟩ = some (.int .i64 c.sales) ∧ Hid (Box w c W)) := fun W h => by rw [← hnbl.out, ← hnyl.out]; exact box_flat h
              clear HS HT hsm
              go_enter Try.func37, Try.ntmps37
              go_wp2_with (first | (go_at_call 59; ((first | (with_reducible refine (I1.out _).mono ?_) | (with_reducible refine (I2.out _).mono ?_) | (with_reducible refine (I3.out _).mono ?_)); rintro e wq ⟨rfl, rfl⟩)) | (go_at_call 60; ((with_reducible refine (CF.out _).mono ?_); rintro e w3 ⟨rfl, hb3⟩; have HB1 := Lib.hid (box_next HB0.out hb3))))
              go_loopw [3] (fun v3 wr => ∃ k : Nat, k ≤ nb ∧ v3 = .int .i64 (k : Int) ∧ Hid (fst PB k = -1) ∧ Hid (Box w c wr)) (fun v3 _ => nb - (intOf v3).toNat)
              case atStart => exact ⟨0, by omega, rfl, rfl, HB1⟩
              case round =>
                obtain ⟨k, hk, rfl, HF, HB⟩ := hrel
                have hbx := box_flat2 HFX HB
                obtain ⟨x0, x1, x2, x3, x4, x5, x6, x7, -⟩ := hbx
                by_cases hlt : k < nb
                · obtain ⟨b, off, hbe, hbl, c0, c1, c2, c3, c4, c5, c6⟩ := HBL.out.1 k (by rw [hnbl.out]; exact hlt)
                  have hlt1 : (k : Int) < (nb : Int) := by omega
                  have hk0 : (0 : Int) ≤ (k : Int) := by omega
                  have CC := Lib.hid (fun W h => CB.out k W hlt h)
                  have HPk : Hid (PB k = decide (bchk (c.blues.getD k nob) c.types ≠ 0)) := by show _ = _; rw [← hPB.out]
                  have HTW := Lib.hid (Rec.bchk_two (c.blues.getD k nob) c.types)
                  have HFS := Lib.hid (fun hp => has_some PB k nb HF.out hp hlt)
                  have HFG := Lib.hid (fst_go PB k HF.out)
                  have HFX2 := HFX
                  rw [hbe] at HFX2
                  generalize c.blues.getD k nob = Eb at *
                  have BF : Hid (∀ W', Hid (Box w c W') → (W'.cell? ⟨w.heap.size, 0, none⟩ = some (.int .i64 c.types) ∧ W'.cell? ⟨w.heap.size, 1, none⟩ = some (.slice (some ⟨b, off, none⟩) nb c.bcap) ∧ W'.cell? ⟨b, off + k * 7, none⟩ = some (.int .i64 Eb.makes) ∧ W'.cell? ⟨b, off + k * 7 + 1, none⟩ = some (.int .i64 Eb.per) ∧ W'.cell? ⟨b, off + k * 7 + 2, none⟩ = some (.int .i64 Eb.time) ∧ W'.cell? ⟨b, off + k * 7 + 3, none⟩ = some (.slice Eb.addr Eb.needs.length Eb.cap) ∧ W'.cell? ⟨b, off + k * 7 + 4, none⟩ = some (.int .i64 Eb.copy) ∧ W'.cell? ⟨b, off + k * 7 + 5, none⟩ = some (.int .i64 Eb.study) ∧ W'.cell? ⟨b, off + k * 7 + 6, none⟩ = some (.int .i64 Eb.most) ∧ Hid (Box w c W'))) := fun W' h => by
                    obtain ⟨y0, y1, -⟩ := HFX2.out W' h
                    have hB := box_b h.out
                    exact ⟨y0, y1, (hB.cell (p := ⟨b, off + k * 7, none⟩) hbl).trans c0, (hB.cell (p := ⟨b, off + k * 7 + 1, none⟩) hbl).trans c1, (hB.cell (p := ⟨b, off + k * 7 + 2, none⟩) hbl).trans c2, (hB.cell (p := ⟨b, off + k * 7 + 3, none⟩) hbl).trans c3, (hB.cell (p := ⟨b, off + k * 7 + 4, none⟩) hbl).trans c4, (hB.cell (p := ⟨b, off + k * 7 + 5, none⟩) hbl).trans c5, (hB.cell (p := ⟨b, off + k * 7 + 6, none⟩) hbl).trans c6, h⟩
                  have HBd := Lib.hid (box_drew HB.out)
                  unfold BlueIn.val at CC
                  clear c0 c1 c2 c3 c4 c5 c6 HFX2 hlt hbe
                  generalize bchk Eb c.types = K at *
                  rcases HTW.out with rfl | rfl
                  · have HF2 := Lib.hid (HFG.out HPk.out)
                    go_wp2
                    go_region_held3 (fun W' => W'.cell? ⟨w.heap.size, 0, none⟩ = some (.int .i64 c.types) ∧ W'.cell? ⟨w.heap.size, 1, none⟩ = some (.slice (some ⟨b, off, none⟩) nb c.bcap) ∧ W'.cell? ⟨b, off + k * 7, none⟩ = some (.int .i64 Eb.makes) ∧ W'.cell? ⟨b, off + k * 7 + 1, none⟩ = some (.int .i64 Eb.per) ∧ W'.cell? ⟨b, off + k * 7 + 2, none⟩ = some (.int .i64 Eb.time) ∧ W'.cell? ⟨b, off + k * 7 + 3, none⟩ = some (.slice Eb.addr Eb.needs.length Eb.cap) ∧ W'.cell? ⟨b, off + k * 7 + 4, none⟩ = some (.int .i64 Eb.copy) ∧ W'.cell? ⟨b, off + k * 7 + 5, none⟩ = some (.int .i64 Eb.study) ∧ W'.cell? ⟨b, off + k * 7 + 6, none⟩ = some (.int .i64 Eb.most) ∧ Hid (Box w c W')) (first | exact BF.out _ HB2 | exact BF.out _ HBd)
                      (first | (go_at_call 61; (have tok := HBd; (with_reducible refine (CC.out _ (box_b HBd.out)).mono ?_); rintro e w2 ⟨rfl, hb2⟩; clear tok; have HB2 := Lib.hid (box_next HBd.out hb2))))
                    go_wp2
                    go_roundw
            
                    case rel => exact ⟨k + 1, by omega, by go_num, HF2, HB2⟩
                    case measure => simp [intOf]; omega
                  · have H6t : Hid (X6 = true) := by show _ = _; rw [H6.out]; exact HFS.out HPk.out
                    have HR : Hid (R = 1) := by show R = _; rw [HK.out, HO.out, H6t.out]; rfl
                    go_wp2
                    go_region_held3 (fun W' => W'.cell? ⟨w.heap.size, 0, none⟩ = some (.int .i64 c.types) ∧ W'.cell? ⟨w.heap.size, 1, none⟩ = some (.slice (some ⟨b, off, none⟩) nb c.bcap) ∧ W'.cell? ⟨b, off + k * 7, none⟩ = some (.int .i64 Eb.makes) ∧ W'.cell? ⟨b, off + k * 7 + 1, none⟩ = some (.int .i64 Eb.per) ∧ W'.cell? ⟨b, off + k * 7 + 2, none⟩ = some (.int .i64 Eb.time) ∧ W'.cell? ⟨b, off + k * 7 + 3, none⟩ = some (.slice Eb.addr Eb.needs.length Eb.cap) ∧ W'.cell? ⟨b, off + k * 7 + 4, none⟩ = some (.int .i64 Eb.copy) ∧ W'.cell? ⟨b, off + k * 7 + 5, none⟩ = some (.int .i64 Eb.study) ∧ W'.cell? ⟨b, off + k * 7 + 6, none⟩ = some (.int .i64 Eb.most) ∧ Hid (Box w c W')) (first | exact BF.out _ HB2 | exact BF.out _ HBd)
                      (first | (go_at_call 61; (have tok := HBd; (with_reducible refine (CC.out _ (box_b HBd.out)).mono ?_); rintro e w2 ⟨rfl, hb2⟩; clear tok; have HB2 := Lib.hid (box_next HBd.out hb2))))
                    go_wp2
                    go_ret
                    exact ⟨by rw [HR.out]; rfl, box_b HB2.out⟩
                · have hke : k = nb := by omega
                  have H6f : Hid (X6 = false) := by show _ = _; rw [H6.out, ← hke]; exact has_none PB k HF.out
                  have hge : ¬ (k : Int) < (nb : Int) := by omega
                  clear hlt hk hke HF
                  go_wp2
                  go_loopw [4] (fun v4 wr => ∃ k : Nat, k ≤ ny ∧ v4 = .int .i64 (k : Int) ∧ Hid (fst PY k = -1) ∧ Hid (Box w c wr)) (fun v4 _ => ny - (intOf v4).toNat)
                  case atStart => exact ⟨0, by omega, rfl, rfl, HB⟩
                  case round =>
                    clear HB x0 x1 x2 x3 x4 x5 x6 x7
                    obtain ⟨q, hq, rfl, HF, HB⟩ := hrel
                    have hbx := box_flat2 HFX HB
                    obtain ⟨x0, x1, x2, x3, x4, x5, x6, x7, -⟩ := hbx
                    have lts := box_l HB.out
                    by_cases hlt : q < ny
                    · obtain ⟨b, off, hbe, hbl, c0, c1, c2, c3⟩ := (HBL.out.2.below (box_b HB.out)) q (by rw [hnyl.out]; exact hlt)
                      have hlt1 : (q : Int) < (ny : Int) := by omega
                      have hq0 : (0 : Int) ≤ (q : Int) := by omega
                      have HPk : Hid (PY q = !okY c.places (c.bays.getD q noy)) := by show _ = _; rw [← hPY.out]
                      have HFS := Lib.hid (fun hp => has_some PY q ny HF.out hp hlt)
                      have HFG := Lib.hid (fst_go PY q HF.out)
                      rw [hbe] at x3
                      generalize c.bays.getD q noy = Ey at *
                      have J1 : Hid (∀ W, Calls Try.prog 59 #[.int .i64 Ey.place, .int .i64 1, .int .i64 c.places] W _) := fun W => rin_any _ _ _ W
                      have J2 : Hid (∀ W, Calls Try.prog 59 #[.int .i64 Ey.make, .int .i64 0, .int .i64 8] W _) := fun W => rin_any _ _ _ W
                      have J3 : Hid (∀ W, Calls Try.prog 59 #[.int .i64 Ey.lab, .int .i64 0, .int .i64 8] W _) := fun W => rin_any _ _ _ W
                      have J4 : Hid (∀ W, Calls Try.prog 59 #[.int .i64 Ey.rate, .int .i64 0, .int .i64 10000] W _) := fun W => rin_any _ _ _ W
                      have HOY : Hid (okY c.places Ey = (inB (Ey.place, 1, c.places) && (inB (Ey.make, 0, 8) && (inB (Ey.lab, 0, 8) && inB (Ey.rate, 0, 10000))))) := rfl
                      rw [HOY.out] at HPk
                      generalize inB (Ey.place, 1, c.places) = Y1 at *
                      generalize inB (Ey.make, 0, 8) = Y2 at *
                      generalize inB (Ey.lab, 0, 8) = Y3 at *
                      generalize inB (Ey.rate, 0, 10000) = Y4 at *
                      have HBn := Lib.hid (fun o => box_next HB.out ((Below.refl wr.heap.size wr).alloc (Nat.le_refl _) o))
                      clear hlt hbe
                      cases Y1
                      · skip
                        have H7t : Hid (X7 = true) := by show _ = _; rw [H7.out]; exact HFS.out HPk.out
                        have HR : Hid (R = 1) := by show R = _; rw [HK.out, HO.out, H6f.out, H7t.out]; rfl
                        go_wp2_with (go_at_call 59; ((first | (with_reducible refine (J1.out _).mono ?_) | (with_reducible refine (J2.out _).mono ?_) | (with_reducible refine (J3.out _).mono ?_) | (with_reducible refine (J4.out _).mono ?_)); rintro e wq ⟨rfl, rfl⟩))
                        go_ret
                        exact ⟨by rw [HR.out]; rfl, box_b (HBn.out _)⟩
                      · skip
                        cases Y2
                        · skip
                          have H7t : Hid (X7 = true) := by show _ = _; rw [H7.out]; exact HFS.out HPk.out
                          have HR : Hid (R = 1) := by show R = _; rw [HK.out, HO.out, H6f.out, H7t.out]; rfl
                          go_wp2_with (go_at_call 59; ((first | (with_reducible refine (J1.out _).mono ?_) | (with_reducible refine (J2.out _).mono ?_) | (with_reducible refine (J3.out _).mono ?_) | (with_reducible refine (J4.out _).mono ?_)); rintro e wq ⟨rfl, rfl⟩))
                          go_ret
                          exact ⟨by rw [HR.out]; rfl, box_b (HBn.out _)⟩
                        · skip
                          cases Y3
                          · skip
                            have H7t : Hid (X7 = true) := by show _ = _; rw [H7.out]; exact HFS.out HPk.out
                            have HR : Hid (R = 1) := by show R = _; rw [HK.out, HO.out, H6f.out, H7t.out]; rfl
                            go_wp2_with (go_at_call 59; ((first | (with_reducible refine (J1.out _).mono ?_) | (with_reducible refine (J2.out _).mono ?_) | (with_reducible refine (J3.out _).mono ?_) | (with_reducible refine (J4.out _).mono ?_)); rintro e wq ⟨rfl, rfl⟩))
                            go_ret
                            exact ⟨by rw [HR.out]; rfl, box_b (HBn.out _)⟩
                          · skip
                            cases Y4
                            · skip
                              have H7t : Hid (X7 = true) := by show _ = _; rw [H7.out]; exact HFS.out HPk.out
                              have HR : Hid (R = 1) := by show R = _; rw [HK.out, HO.out, H6f.out, H7t.out]; rfl
                              go_wp2_with (go_at_call 59; ((first | (with_reducible refine (J1.out _).mono ?_) | (with_reducible refine (J2.out _).mono ?_) | (with_reducible refine (J3.out _).mono ?_) | (with_reducible refine (J4.out _).mono ?_)); rintro e wq ⟨rfl, rfl⟩))
                              go_ret
                              exact ⟨by rw [HR.out]; rfl, box_b (HBn.out _)⟩
                            · skip
                              have HF2 := Lib.hid (HFG.out HPk.out)
                              go_wp2_with (go_at_call 59; ((first | (with_reducible refine (J1.out _).mono ?_) | (with_reducible refine (J2.out _).mono ?_) | (with_reducible refine (J3.out _).mono ?_) | (with_reducible refine (J4.out _).mono ?_)); rintro e wq ⟨rfl, rfl⟩))
                              go_roundw
                              case rel => exact ⟨q + 1, by omega, by go_num, HF2, HBn.out _⟩
                              case measure => simp [intOf]; omega
                    · have hqe : q = ny := by omega
                      have H7f : Hid (X7 = false) := by show _ = _; rw [H7.out, ← hqe]; exact has_none PY q HF.out
                      have HOt : Hid (O = true) := by show _ = _; rw [HO.out, H6f.out, H7f.out]; rfl
                      have hge2 : ¬ (q : Int) < (ny : Int) := by omega
                      have HD1 := Lib.hid (box_drew HB.out)
                      clear hlt hq hqe HF
                      by_cases hE : E = 0
                      · subst hE
                        have HR : Hid (R = if over D then 5 else 0) := by show R = _; rw [HK.out, HOt.out, if_pos rfl, if_neg (by simp)]
                        have HDl : Hid (D.length ≤ 32) := by show _ ≤ _; rw [HLn.out rfl]; have := HT2.out; omega
                        have hdl : (D.length : Int) ≤ 32 := by have := HDl.out; omega
                        go_wp2
                        go_region_held3 (fun W' => W'.cell? ⟨w.heap.size, 0, none⟩ = some (.int .i64 c.types) ∧ W'.cell? ⟨w.heap.size, 1, none⟩ = some (.slice c.baddr nb c.bcap) ∧ W'.cell? ⟨w.heap.size, 2, none⟩ = some (.int .i64 c.places) ∧ W'.cell? ⟨w.heap.size, 3, none⟩ = some (.slice c.yaddr ny c.ycap) ∧ W'.cell? ⟨w.heap.size, 4, none⟩ = some (.int .i64 c.chars) ∧ W'.cell? ⟨w.heap.size, 5, none⟩ = some (.int .i64 c.broker) ∧ W'.cell? ⟨w.heap.size, 6, none⟩ = some (.int .i64 c.least) ∧ W'.cell? ⟨w.heap.size, 7, none⟩ = some (.int .i64 c.sales) ∧ Hid (Box w c W')) (first | exact HFX.out _ HD3 | exact HFX.out _ HD2 | exact HFX.out _ HD1)
                          (first | (go_at_call 62; (have tok := HD2; (with_reducible refine (CD.out _ _ _ hP2).mono ?_); rintro e w5 ⟨a5, k5, rfl, hi5, hb5⟩; clear tok; have HD3 := Lib.hid (box_next HD2.out hb5))) | (go_at_call 63; (have tok := HD1; (with_reducible refine (CN.out _ (box_b HD1.out)).mono ?_); rintro e w4 ⟨v4, rfl, hO4, hb4⟩; obtain ⟨a4, k4, rfl, hP2⟩ := prs_of_own hO4.out; clear tok; have HD2 := Lib.hid (box_next HD1.out hb4.out))))
                        have HI5 := Lib.hid hi5
                        clear hi5
                        go_wp2
                        go_loop [8] (fun v8 => ∃ j : Nat, j ≤ D.length ∧ v8 = .int .i64 (j : Int) ∧ Hid (over (D.take j) = false)) (fun v8 => D.length - (intOf v8).toNat)
                        case atStart => exact ⟨0, by omega, rfl, rfl⟩
                        case round =>
                          obtain ⟨j, hj, rfl, HJ⟩ := hrel
                          by_cases hlj : j < D.length
                          · obtain ⟨b6, off6, rfl, hbl6, c8⟩ := HI5.out j hlj
                            have hlj1 : (j : Int) < (D.length : Int) := by omega
                            have hj0 : (0 : Int) ≤ (j : Int) := by omega
                            have HON := Lib.hid (over_snoc D j hlj)
                            have HOS := Lib.hid (over_some D j hlj)
                            generalize D.getD j 0 = Y at *
                            by_cases h8 : 8 < Y
                            · have HR2 : Hid (R = 5) := by show R = _; rw [HR.out, HOS.out h8]; rfl
                              have d8 : decide (8 < Y) = true := decide_eq_true h8
                              go_wp2
                              go_ret
                              exact ⟨by rw [HR2.out]; rfl, box_b HD3.out⟩
                            · have d8 : decide (8 < Y) = false := decide_eq_false h8
                              rw [HJ.out, d8] at HON
                              go_wp2
                              go_round
                              case rel => exact ⟨j + 1, by omega, by go_num, HON⟩
                              case measure => simp [intOf]; omega
                          · have hje : j = D.length := by omega
                            have HR2 : Hid (R = 0) := by
                              show R = _
                              have h := HJ.out
                              rw [hje, List.take_length] at h
                              rw [HR.out, h]; rfl
                            have hgj : ¬ (j : Int) < (D.length : Int) := by omega
                            clear hlj hje hj
                            go_wp2
                            go_ret
                            exact ⟨by rw [HR2.out]; rfl, box_b HD3.out⟩
                      · have HR : Hid (R = E) := by show R = _; rw [HK.out, HOt.out, if_pos rfl, if_pos hE]
                        have dE : (E == 0) = false := beq_eq_false_iff_ne.2 hE
                        go_wp2
                        go_region_held3 (fun W' => W'.cell? ⟨w.heap.size, 0, none⟩ = some (.int .i64 c.types) ∧ W'.cell? ⟨w.heap.size, 1, none⟩ = some (.slice c.baddr nb c.bcap) ∧ W'.cell? ⟨w.heap.size, 2, none⟩ = some (.int .i64 c.places) ∧ W'.cell? ⟨w.heap.size, 3, none⟩ = some (.slice c.yaddr ny c.ycap) ∧ W'.cell? ⟨w.heap.size, 4, none⟩ = some (.int .i64 c.chars) ∧ W'.cell? ⟨w.heap.size, 5, none⟩ = some (.int .i64 c.broker) ∧ W'.cell? ⟨w.heap.size, 6, none⟩ = some (.int .i64 c.least) ∧ W'.cell? ⟨w.heap.size, 7, none⟩ = some (.int .i64 c.sales) ∧ Hid (Box w c W')) (first | exact HFX.out _ HD3 | exact HFX.out _ HD2 | exact HFX.out _ HD1)
                          (first | (go_at_call 62; (have tok := HD2; (with_reducible refine (CD.out _ _ _ hP2).mono ?_); rintro e w5 ⟨a5, k5, rfl, hi5, hb5⟩; clear tok; have HD3 := Lib.hid (box_next HD2.out hb5))) | (go_at_call 63; (have tok := HD1; (with_reducible refine (CN.out _ (box_b HD1.out)).mono ?_); rintro e w4 ⟨v4, rfl, hO4, hb4⟩; obtain ⟨a4, k4, rfl, hP2⟩ := prs_of_own hO4.out; clear tok; have HD2 := Lib.hid (box_next HD1.out hb4.out))))
                        go_wp2
                        go_ret
                        exact ⟨by rw [HR.out]; rfl, box_b HD3.out⟩
          · have dny : decide ((8 : Int) < (ny : Int)) = true := decide_eq_true (by omega)
            have eny : (8 : Int) < (ny : Int) := by omega
            rw [decide_eq_false hny] at HS
            have HO : Hid (O = false) := by show O = _; rw [HS.out]; rfl
            have HR : Hid (R = 1) := by show R = _; rw [HK.out, HO.out]; rfl
            rw [HR.out]
            go_enter Try.func37, Try.ntmps37
            go_wp2_with (first | (go_at_call 59; ((first | (with_reducible refine (I1.out _).mono ?_) | (with_reducible refine (I2.out _).mono ?_) | (with_reducible refine (I3.out _).mono ?_)); rintro e wq ⟨rfl, rfl⟩)) | (go_at_call 60; ((with_reducible refine (CF.out _).mono ?_); rintro e w3 ⟨rfl, hb3⟩; have HB1 := Lib.hid (box_next HB0.out hb3))))
            go_ret
            exact ⟨rfl, box_b HB0.out⟩
        · have dnb : decide ((16 : Int) < (nb : Int)) = true := decide_eq_true (by omega)
          have enb : (16 : Int) < (nb : Int) := by omega
          rw [decide_eq_false hnb] at HS
          have HO : Hid (O = false) := by show O = _; rw [HS.out]; rfl
          have HR : Hid (R = 1) := by show R = _; rw [HK.out, HO.out]; rfl
          rw [HR.out]
          go_enter Try.func37, Try.ntmps37
          go_wp2_with (first | (go_at_call 59; ((first | (with_reducible refine (I1.out _).mono ?_) | (with_reducible refine (I2.out _).mono ?_) | (with_reducible refine (I3.out _).mono ?_)); rintro e wq ⟨rfl, rfl⟩)) | (go_at_call 60; ((with_reducible refine (CF.out _).mono ?_); rintro e w3 ⟨rfl, hb3⟩; have HB1 := Lib.hid (box_next HB0.out hb3))))
          go_ret
          exact ⟨rfl, box_b HB0.out⟩
end Cat
end Go.Proofs.Ytiabnjmblcogmaa
end
section
namespace Go.Proofs.Ytiabnjmblcogmaa
open Go.RowKit
namespace Cat
open Rec (BlueIn Stk Stks Came bchk inB)
open Pen (below2 below_al below_dN)
def makerV (l : List BlueIn) (kind : Int) : Int := fst (fun i => (l.getD i nob).makes == kind) l.length + 1
theorem fst_up (P : Nat → Bool) (n : Nat) : fst P n < n := by
  induction n with
  | zero => show (-1 : Int) < 0; omega
  | succ n ih =>
    rw [fst]
    split
    · split <;> omega
    · omega
set_option maxHeartbeats 1000000 in
theorem Maker_any (c : CatIn) (kind : Int) (w : World) (hc : Cam w c) :
    Calls Try.prog 48 #[.agg c.val, .int .i64 kind] w fun e w' => e = .returned (.int .i64 (makerV c.blues kind)) ∧ Below w.heap.size w w' := by
  have HB0 := Lib.hid (box_new w c 27)
  have hbw := below_al (box_b HB0.out) (.cells #[.int .i64 kind] 3)
  have CI : Hid (∀ W g, Below w.heap.size w W → W.cell? ⟨g, 0, none⟩ = some (.int .i64 kind) → g < W.heap.size → Calls Try.prog 71 #[.slice c.baddr c.blues.length c.bcap, .func (.func 72) #[] #[.pointer (some ⟨g, 0, none⟩)]] W fun e w' => e = .returned (.int .i64 (fst (fun i => (c.blues.getD i nob).makes == kind) c.blues.length)) ∧ Below W.heap.size W w') := fun W g h h0 h1 =>
    indexMaker_any _ _ _ hc.small.1 _ _ W (hc.below h).lies.1 h0 h1
  have HM : Hid (makerV c.blues kind = fst (fun i => (c.blues.getD i nob).makes == kind) c.blues.length + 1) := rfl
  have h1 := fst_low (fun i => (c.blues.getD i nob).makes == kind) c.blues.length
  have h2 := fst_up (fun i => (c.blues.getD i nob).makes == kind) c.blues.length
  have h3 := hc.small.1
  generalize fst (fun i => (c.blues.getD i nob).makes == kind) c.blues.length = F at *
  have hF : F + 1 ≤ 20 := by omega
  have hF0 : 0 ≤ F + 1 := by omega
  rw [HM.out]
  unfold CatIn.val at *
  clear hc h1 h2 h3
  go_enter Try.func48, Try.ntmps48
  go_wp2_with (go_at_call 71; ((with_reducible refine (CI.out _ _ hbw (by go_simp) (by simp)).mono ?_); rintro e w1 ⟨rfl, hb1⟩))
  go_ret
  exact ⟨rfl, below2 hbw hb1⟩
set_option maxHeartbeats 1000000 in
theorem refMaker_any (c : CatIn) (kind : Int) (w : World) (hc : Cam w c) :
    Calls Try.prog 51 #[.agg c.val, .int .i64 kind] w fun e w' => e = .returned (.int .i64 (makerV c.blues kind)) ∧ Below w.heap.size w w' := by
  have HB0 := Lib.hid (box_new w c 27)
  have HBL := Lib.hid hc.lies.1
  have hsm := hc.small.1
  obtain ⟨P, hP⟩ : ∃ P : Nat → Bool, Hid ((fun i => (c.blues.getD i nob).makes == kind) = P) := ⟨_, rfl⟩
  obtain ⟨nb, hnb⟩ : ∃ nb, Hid (c.blues.length = nb) := ⟨_, rfl⟩
  have HM : Hid (makerV c.blues kind = fst P nb + 1) := by show _ = _; unfold makerV; rw [hP.out, hnb.out]
  rw [hnb.out] at hsm
  have hn20 : (nb : Int) ≤ 20 := by omega
  generalize hR : makerV c.blues kind = R at *
  unfold CatIn.val at *
  rw [hnb.out] at HB0 ⊢
  have hbb := below_al (Below.refl w.heap.size w) (.cells #[.int .i64 c.types, .slice c.baddr nb c.bcap, .int .i64 c.places, .slice c.yaddr c.bays.length c.ycap, .int .i64 c.chars, .int .i64 c.broker, .int .i64 c.least, .int .i64 c.sales] 27)
  generalize c.baddr = ba at *
  clear hc hR HB0
  go_enter Try.func51, Try.ntmps51
  go_wp2
  go_loop [5] (fun v5 => ∃ k : Nat, k ≤ nb ∧ v5 = .int .i64 (k : Int) ∧ Hid (fst P k = -1)) (fun v5 => nb - (intOf v5).toNat)
  case atStart => exact ⟨0, by omega, rfl, rfl⟩
  case round =>
    obtain ⟨k, hk, rfl, HF⟩ := hrel
    by_cases hlt : k < nb
    · obtain ⟨b, off, rfl, hbl, c0, -⟩ := (HBL.out.below hbb) k (by rw [hnb.out]; exact hlt)
      have hlt1 : (k : Int) < (nb : Int) := by omega
      have hk0 : (0 : Int) ≤ (k : Int) := by omega
      have HPk : Hid (P k = ((c.blues.getD k nob).makes == kind)) := by show _ = _; rw [← hP.out]
      have HFS := Lib.hid (fun hp => fst_stay P k HF.out hp nb hlt)
      have HFG := Lib.hid (fst_go P k HF.out)
      generalize (c.blues.getD k nob).makes = M at *
      by_cases hM : M = kind
      · have d : (M == kind) = true := beq_iff_eq.2 hM
        rw [d] at HPk
        have HR : Hid (R = (k : Int) + 1) := by show R = _; rw [HM.out, HFS.out HPk.out]
        clear hM hlt
        go_wp2
        go_ret
        exact ⟨by rw [HR.out]; rfl, hbb⟩
      · have d : (M == kind) = false := beq_eq_false_iff_ne.2 hM
        rw [d] at HPk
        have HF2 := Lib.hid (HFG.out HPk.out)
        clear hM hlt
        go_wp2
        go_round
        case rel => exact ⟨k + 1, by omega, by go_num, HF2⟩
        case measure => simp [intOf]; omega
    · have hke : k = nb := by omega
      have HR : Hid (R = 0) := by show R = _; rw [HM.out, ← hke, HF.out]; rfl
      have hge : ¬ (k : Int) < (nb : Int) := by omega
      clear hlt hke hk
      go_wp2
      go_ret
      exact ⟨by rw [HR.out]; rfl, hbb⟩
/-- The part with a number. -/
def atB (l : List BlueIn) (n : Int) : BlueIn × Int := if inB (n, 1, (l.length : Int)) then (l.getD (n.toNat - 1) nob, 0) else (nob, 3)
/-- The part with a number. -/
def atY (l : List BayIn) (n : Int) : BayIn × Int := if inB (n, 1, (l.length : Int)) then (l.getD (n.toNat - 1) noy, 0) else (noy, 3)
set_option maxHeartbeats 1000000 in
theorem nthY_any (a : Option Addr) (cap : Nat) (l : List BayIn) (hl : l.length ≤ 20) (n : Int) (w : World) (ha : Bays w a l) :
    Calls Try.prog 68 #[.slice a l.length cap, .int .i64 n] w fun e w' => e = .returned (.tuple #[.agg (atY l n).1.val, .int .i64 (atY l n).2]) ∧ Below w.heap.size w w' := by
  have CI : Hid (∀ W, Calls Try.prog 75 #[.int .i64 n, .int .i64 1, .int .i64 (l.length : Int)] W fun e w' => e = .returned (.bool (inB (n, 1, (l.length : Int)))) ∧ W = w') := fun W => cin_any _ _ _ W
  have HD : Hid (atY l n = if inB (n, 1, (l.length : Int)) then (l.getD (n.toNat - 1) noy, 0) else (noy, 3)) := rfl
  cases hin : inB (n, 1, (l.length : Int))
  · rw [hin] at CI
    have HR : Hid (atY l n = (noy, 3)) := by show _ = _; rw [HD.out, hin]; rfl
    rw [HR.out]
    clear HD hin ha
    unfold BayIn.val noy
    go_enter Try.func68, Try.ntmps68
    go_wp2_with (go_at_call 75; ((with_reducible refine (CI.out _).mono ?_); rintro e w1 ⟨rfl, rfl⟩))
    try simp only [Exit.inBlock, Exit.then]
    refine bodyPost_ret (v := .tuple #[.agg #[.int .i64 0, .int .i64 0, .int .i64 0, .int .i64 0], .int .i64 3]) (by rw [results_cell_tmp rfl]; go_simp) rfl ⟨rfl, ?_⟩
    first | exact below_al (below_al (Below.refl _ _) _) _ | exact below_al (Below.refl _ _) _
  · rw [hin] at CI
    have h1 := hin
    unfold inB at h1
    rw [Bool.and_eq_true, decide_eq_true_eq, decide_eq_true_eq] at h1
    simp only at h1
    obtain ⟨k, rfl⟩ : ∃ k : Nat, n = (k : Int) + 1 := ⟨n.toNat - 1, by omega⟩
    have HR : Hid (atY l ((k : Int) + 1) = (l.getD k noy, 0)) := by show _ = _; rw [HD.out, hin, if_pos rfl, show ((k : Int) + 1).toNat - 1 = k by omega]
    rw [HR.out]
    have hk : k < l.length := by omega
    obtain ⟨b, off, rfl, hbl, c0, c1, c2, c3⟩ := ha k hk
    have hk1 : (k : Int) < (l.length : Int) := by omega
    have hk0 : (0 : Int) ≤ (k : Int) := by omega
    generalize l.getD k noy = E at *
    have hl1 : (l.length : Int) ≤ 20 := by omega
    generalize l.length = N at *
    clear HD hin ha h1 hk
    unfold BayIn.val
    go_enter Try.func68, Try.ntmps68
    go_wp2_with (go_at_call 75; ((with_reducible refine (CI.out _).mono ?_); rintro e w1 ⟨rfl, rfl⟩))
    try simp only [Exit.inBlock, Exit.then]
    refine bodyPost_ret (v := .tuple #[.agg #[.int .i64 E.place, .int .i64 E.make, .int .i64 E.lab, .int .i64 E.rate], .int .i64 0]) (by rw [results_cell_tmp rfl]; go_simp) rfl ⟨rfl, ?_⟩
    first | exact below_al (below_al (Below.refl _ _) _) _ | exact below_al (Below.refl _ _) _
end Cat
end Go.Proofs.Ytiabnjmblcogmaa
end
section
namespace Go.Proofs.Ytiabnjmblcogmaa
open Go.RowKit
namespace Cat
open Rec (BlueIn Stk Stks Came bchk inB)
open Pen (below2 below_al below_dN)
theorem heap_at {w : World} {g : Nat} (hg : w.heap.size = g) (o : Obj) : (w.alloc o).heap[g]? = some o := by
  subst hg; show (w.heap.push _)[w.heap.size]? = _; simp
theorem setRow_in {w : World} {g : Nat} {old cs : Array Value} {t : TypeId} (hg : w.heap[g]? = some (.cells old t (0, 0))) : (w.setRow g cs).heap[g]? = some (.cells cs t (0, 0)) := setRow_heap w g old cs t (0, 0) hg
theorem sizeB : (Try.prog.info? 51).map (·.size) = some 7 := by kernel_rfl
theorem sizeY : (Try.prog.info? 48).map (·.size) = some 4 := by kernel_rfl
set_option maxHeartbeats 1000000 in
theorem Bay_any (c : CatIn) (n : Int) (w : World) (hc : Cam w c) :
    Calls Try.prog 45 #[.agg c.val, .int .i64 n] w fun e w' => e = .returned (.tuple #[.agg (atY c.bays n).1.val, .int .i64 (atY c.bays n).2]) ∧ Below w.heap.size w w' := by
  have HB0 := Lib.hid (box_new w c 27)
  have CI : Hid (∀ W, Below w.heap.size w W → Calls Try.prog 68 #[.slice c.yaddr c.bays.length c.ycap, .int .i64 n] W fun e w' => e = .returned (.tuple #[.agg (atY c.bays n).1.val, .int .i64 (atY c.bays n).2]) ∧ Below W.heap.size W w') := fun W h => nthY_any _ _ _ (Nat.le_trans hc.small.2.1 (by omega)) n W (hc.below h).lies.2.1
  generalize (atY c.bays n).1 = E at *
  generalize (atY c.bays n).2 = F at *
  unfold CatIn.val BayIn.val at *
  have hbw := below_al (box_b HB0.out) (.cells #[.int .i64 0, .int .i64 0, .int .i64 0, .int .i64 0] 48)
  clear hc
  go_enter Try.func45, Try.ntmps45
  go_wp2_with (first
    | (go_at_call 68; ((with_reducible refine (CI.out _ hbw).mono ?_); rintro e w1 ⟨rfl, hb1⟩; have hg1 := (hb1.block (w.heap.size + 1) (by simp)).trans (heap_at (by simp) _)))
    | (refine wpList_store_row rfl 48 (.tmp 4) (.tmp 10) rfl (w.heap.size + 1) #[.int .i64 E.place, .int .i64 E.make, .int .i64 E.lab, .int .i64 E.rate] rfl rfl 48 _ hg1 sizeY rfl (by simp [Value.oneCell']) ?_))
  try simp only [Exit.inBlock, Exit.then]
  refine bodyPost_ret (v := .tuple #[.agg #[.int .i64 E.place, .int .i64 E.make, .int .i64 E.lab, .int .i64 E.rate], .int .i64 F]) ?_ rfl ⟨rfl, ?_⟩
  · rw [results_cell_tmp rfl]
    simp [asAddr, run_loadVar_row _ _ _ _ #[.int .i64 E.place, .int .i64 E.make, .int .i64 E.lab, .int .i64 E.rate] _ _ (setRow_in hg1) Try.underlying48 rfl sizeY]
  · exact below_setRow (below2 hbw hb1) (by omega) _
end Cat
end Go.Proofs.Ytiabnjmblcogmaa
end
