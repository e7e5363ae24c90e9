/- How many ways lead: the reference's Ways. -/
import Derived.Test.YtjdkkldlghdojaaGraY3
import Derived.Deep.DeepCutAuto
namespace Go.Proofs.Ytjdkkldlghdojaa
open Go.RowKit
namespace Gra
open In (Ints IsInts)
set_option maxRecDepth 100000 in
set_option maxHeartbeats 16000000 in
theorem refWays_yes (N : Nat) (a : Option Addr) (cap : Nat) (l : List (Int × Int)) (F Z : Nat) (hg : Good (N : Int) l) (hF1 : 1 ≤ F) (hF2 : F ≤ N) (hZ1 : 1 ≤ Z) (hZ2 : Z ≤ N) (hfull : ¬ (ord N l).length < N) (RV RE : Int) (HRR : Hid ((if waysV N l F Z ≤ MX then waysV N l F Z else 0) = RV ∧ (if waysV N l F Z ≤ MX then (0 : Int) else 5) = RE)) (w : World) (ha : Prs w a l) :
    Calls Try.prog 9 #[.int .i64 (N : Int), .slice a l.length cap, .int .i64 (F : Int), .int .i64 (Z : Int)] w fun e w' => e = .returned (.tuple #[.int .i64 RV, .int .i64 RE]) ∧ Below w.heap.size w w' := by
  have HA := Lib.hid ha
  have CM := Lib.hid (may_any (N : Int) a cap l w ha)
  rw [decide_eq_true hg] at CM
  have CO : Hid (∀ w1 : World, Below w.heap.size w w1 → Calls Try.prog 11 #[.int .i64 (N : Int), .slice a l.length cap] w1 (ListOut (ord N l, 0) w1)) := fun w1 hb => by
    have := refOrder_core (N : Int) a cap l w1 (ha.below hb)
    rwa [show ordRes (N : Int) l = (ord N l, 0) by unfold ordRes; rw [if_pos hg, Int.toNat_natCast, if_neg hfull]] at this
  have HP := Lib.hid hg.pairs
  simp only [Int.toNat_natCast] at HP
  have hN64 : (N : Int) < 65 := by have := hg.2.1; omega
  have HL : Hid (l.length ≤ 256) := hg.2.2.1
  have hL1 : (l.length : Int) < 257 := by have := HL.out; omega
  have f1 : (0 : Int) ≤ (F : Int) := by omega
  have z1 : (0 : Int) ≤ (Z : Int) := by omega
  have d1 : decide ((F : Int) < 1) = false := decide_eq_false (by omega)
  have d2 : decide ((N : Int) < (F : Int)) = false := decide_eq_false (by omega)
  have d3 : decide ((Z : Int) < 1) = false := decide_eq_false (by omega)
  have d4 : decide ((N : Int) < (Z : Int)) = false := decide_eq_false (by omega)
  have HFZ : Hid (F < 65 ∧ Z < 65 ∧ 1 ≤ F ∧ F ≤ N ∧ 1 ≤ Z ∧ Z ≤ N) := ⟨by omega, by omega, hF1, hF2, hZ1, hZ2⟩
  obtain ⟨M, hM⟩ : ∃ M : Nat, Hid (N + 1 = M) := ⟨_, rfl⟩
  have hMI : (N : Int) + 1 = (M : Int) := by have := hM.out; omega
  have hM66 : (M : Int) < 66 := by omega
  have fM : (F : Int) < (M : Int) := by omega
  have zM : (Z : Int) < (M : Int) := by omega
  have hmk := fun w => run_mkI M (by omega) w
  have hmb := fun w => run_mkB M (by omega) w
  have HFU := Lib.hid hfull
  clear ha hg hF1 hF2 hZ1 hZ2 hfull
  go_enter Try.func9, Try.ntmps9
  go_wp2_with (first
    | (go_at_call 21; ((with_reducible refine CM.out.mono ?_); rintro e w1 ⟨rfl, hB1⟩; have HB1 := Lib.hid hB1; clear hB1))
    | (go_at_call 11; go_must ((with_reducible refine (CO.out _ HB1.out).mono ?_); rintro e w2 ⟨av, cv, rfl, hI, hB2⟩; have HI := Lib.hid hI; have HB2 := Lib.hid hB2; clear hI hB2)))
  have HAR := Lib.hid (arrR_new w2 M)
  have HBW : Hid (Below w.heap.size w w2) := HB1.out.trans (HB2.out.mono HB1.out.size)
  have HPA : Hid (Prs w2 a l) := HA.out.below HBW.out
  obtain ⟨xs, hxs⟩ : ∃ xs, Hid (ord N l = xs) := ⟨_, rfl⟩
  have HXR : Hid (∀ k, k < xs.length → 1 ≤ xs.getD k 0 ∧ xs.getD k 0 ≤ (N : Int)) := fun k hk => by have := hxs.out; subst this; exact ord_in hk
  have HXA : Hid (∀ k, k < xs.length → ∀ e ∈ l, e.1 = xs.getD k 0 → e.2 ∈ xs.take k) := fun k hk => by have := hxs.out; subst this; exact ordG_ahead N l N k hk
  have HXN : Hid xs.Nodup := by have := hxs.out; subst this; exact (ordG_ok N l N).nodup
  have HOL : Hid (xs.length ≤ N) := by have := hxs.out; subst this; exact (ordG_ok N l N).len
  have HFULL : Hid (∀ x : Nat, 1 ≤ x → x ≤ N → (x : Int) ∈ xs) := fun x h1 h2 => by have := hxs.out; subst this; exact full_mem (ordG_ok N l N) (by have := HFU.out; unfold ord at this; omega) x h1 h2
  have HVV : Hid (waysV N l F Z = wyT (Z : Int) l xs xs.length (F : Int)) := by show _ = _; unfold waysV; rw [hxs.out]
  rw [hxs.out] at HI ⊢
  have hxl : (xs.length : Int) < 65 := by have := HOL.out; omega
  clear CM CO HA hmk hmb
  generalize ((w2.alloc (.cells (madeCells #[.int .i64 0] M) 3)).alloc (.cells (madeCells #[.bool false] M) 4)) = wm at *
  go_loopw [14] (fun v14 wr => ∃ (k : Nat) (V : Nat → Int) (O : Nat → Bool), k ≤ xs.length ∧ v14 = .int .i64 k ∧ Hid (RInv N (wyT (Z : Int) l xs k) (xs.take k) V O) ∧ Hid (ArrR w2 w2.heap.size (w2.heap.size + 1) M V O wr)) (fun v14 _ => xs.length - (intOf v14).toNat)
  case atStart => exact ⟨0, _, _, by omega, rfl, ⟨fun i _ h => by simp at h, fun _ _ _ => ⟨rfl, rfl⟩⟩, HAR⟩
  case round =>
    obtain ⟨k, V, O, hk, rfl, HT, HAr⟩ := hrel
    by_cases hlt : k < xs.length
    · obtain ⟨b, off, ea, hb, c0⟩ := (In.Ints.below HI.out HAr.out.bel) k hlt
      rw [ea]
      replace ea := Lib.hid ea
      have hlt1 : (k : Int) < (xs.length : Int) := by omega
      have hk0 : (0 : Int) ≤ (k : Int) := by omega
      have hx := HXR.out k hlt
      have HXP : Hid (xs.getD k 0 ∉ xs.take k) := nodup_take HXN.out hlt
      have HNE : Hid (∀ e ∈ l, e.1 = xs.getD k 0 → e.2 ∈ xs.take k) := HXA.out k hlt
      obtain ⟨X, hX⟩ : ∃ X : Nat, Hid (xs.getD k 0 = (X : Int)) := ⟨(xs.getD k 0).toNat, by show _ = _; omega⟩
      have HNX : Hid (∃ b0 : Int, b0 = (if X = Z then 1 else 0) ∧ b0 + sF (wyT (Z : Int) l xs k) l (X : Int) = wyT (Z : Int) l xs (k + 1) (X : Int)) := by
        refine ⟨_, rfl, ?_⟩
        by_cases e : X = Z
        · rw [if_pos e]
          have e2 : xs.getD k 0 = (Z : Int) := by rw [hX.out, e]
          have := zero_sum (z := (Z : Int)) HXA.out hlt (by rw [← e2]; exact HXP.out) e2
          rw [e, this, wyT_to]; omega
        · rw [if_neg e]
          have := wyT_at (tz := (Z : Int)) (E := l) (xs := xs) (k := k) (by rw [hX.out]; omega)
          rw [hX.out] at this
          rw [this, sF_smW]; omega
      have HOF : Hid (∀ i : Int, i ≠ (X : Int) → wyT (Z : Int) l xs (k + 1) i = wyT (Z : Int) l xs k i) := fun i h => wyT_off (by rw [hX.out]; exact h)
      have HTK : Hid (xs.take (k + 1) = xs.take k ++ [(X : Int)]) := by show _ = _; rw [take_snocI xs k hlt, hX.out]
      have HWN : Hid (∀ i, 0 ≤ wyT (Z : Int) l xs k i) := wyT_nn _ _ _ _
      rw [hX.out] at c0 hx HXP HNE
      obtain ⟨T', hT'⟩ : ∃ T', Hid (wyT (Z : Int) l xs (k + 1) = T') := ⟨_, rfl⟩
      rw [hT'.out] at HNX HOF
      obtain ⟨P', hP'⟩ : ∃ P', Hid (xs.take (k + 1) = P') := ⟨_, rfl⟩
      rw [hP'.out] at HTK
      generalize wyT (Z : Int) l xs k = T at *
      generalize xs.take k = P at *
      have hx0 : (0 : Int) ≤ (X : Int) := by omega
      have hx3 : (X : Int) < (M : Int) := by omega
      have hXN : X ≤ N := by omega
      have HXO := Lib.hid (HT.out.rest X hXN HXP.out)
      clear hx
      obtain ⟨wo, rfl⟩ : ∃ wo : World, wo = wr := ⟨_, rfl⟩
      obtain ⟨b0, hb0, HN2⟩ := HNX.out
      replace HN2 := Lib.hid HN2
      go_upto_if 67 with fail
      go_cut [] (fun wx => Hid (ArrR w2 w2.heap.size (w2.heap.size + 1) M (fun i => if i = X then b0 else V i) O wx))
      case first =>
        by_cases g : X = Z
        · have d1 : ((X : Int) == (Z : Int)) = true := by simp [g]
          rw [if_pos g] at hb0
          subst hb0
          have fv := HAr.out.ways.frozen X
          have cv2 := HAr.out.ways.cell (i := X) (by omega)
          have HAs := Lib.hid (HAr.out.setV (by omega) (by omega) X 1)
          clear g
          go_wp2_with fail
          go_meet
          exact HAs
        · have d1 : ((X : Int) == (Z : Int)) = false := beq_eq_false_iff_ne.2 (by omega)
          rw [if_neg g] at hb0
          subst hb0
          clear g
          go_wp2_with fail
          go_meet
          exact HAr.out.congr (fun i => by
            by_cases e : i = X
            · rw [if_pos e, e]; exact HXO.out.1.symm
            · rw [if_neg e]) (fun _ => rfl)
      case rest =>
        have HAc := Lib.hid hcut.out
        have HB0 : Hid (0 ≤ b0 ∧ b0 ≤ 1) := by
          rw [hb0]
          by_cases e : X = Z
          · rw [if_pos e]; exact ⟨by omega, by omega⟩
          · rw [if_neg e]; exact ⟨by omega, by omega⟩
        clear hb0 HAr HAR hb c0
        go_wp2
        go_loopw [16] (fun v16 wx => ∃ (i : Nat) (VX : Int) (A : Bool), i ≤ l.length ∧ v16 = .int .i64 i ∧ Hid (A = true ↔ MX < b0 + sF T (l.take i) (X : Int)) ∧ Hid (A = false → VX = b0 + sF T (l.take i) (X : Int)) ∧ Hid (0 ≤ VX ∧ VX ≤ MX) ∧ Hid (ArrR w2 w2.heap.size (w2.heap.size + 1) M (fun j => if j = X then VX else V j) (fun j => if j = X then A else O j) wx)) (fun v16 _ => l.length - (intOf v16).toNat)
        case atStart =>
          have h0 := HB0.out
          have e0 : b0 + sF T (l.take 0) (X : Int) = b0 := by show b0 + 0 = b0; omega
          refine ⟨0, b0, false, by omega, rfl, ?_, fun _ => e0.symm, ⟨by omega, by unfold MX; omega⟩, HAc.out.congr (fun _ => rfl) (fun j => by
            by_cases e : j = X
            · rw [if_pos e, e]; exact HXO.out.2.symm
            · rw [if_neg e])⟩
          show _ ↔ _
          rw [e0]; unfold MX; simp; omega
        case round =>
          obtain ⟨i, VX, A, hi2, rfl, HS, HV, HVX, HAx⟩ := hrel
          by_cases hlti : i < l.length
          · obtain ⟨b2, off2, ea2, hb2, c1, c2⟩ := (HPA.out.below HAx.out.bel) i hlti
            rw [ea2]
            replace ea2 := Lib.hid ea2
            have hlti1 : (i : Int) < (l.length : Int) := by omega
            have hi0 : (0 : Int) ≤ (i : Int) := by omega
            have hlti2 := Lib.hid hlti
            have HSS := Lib.hid (sF_snoc T l (X : Int) i hlti)
            have hem : l.getD i (0, 0) ∈ l := by rw [List.getD_eq_getElem?_getD, List.getElem?_eq_getElem hlti]; exact List.getElem_mem _
            have hy := (HP.out _ hem).2
            have hyP := HNE.out _ hem
            obtain ⟨p, hp⟩ : ∃ A, Hid ((l.getD i (0, 0)).1 = A) := ⟨_, rfl⟩
            obtain ⟨Y, hY⟩ : ∃ Y : Nat, Hid ((l.getD i (0, 0)).2 = (Y : Int)) := ⟨((l.getD i (0, 0)).2).toNat, by show _ = _; omega⟩
            rw [hp.out] at c1 HSS hyP
            rw [hY.out] at c2 hy HSS hyP
            by_cases g : p = (X : Int)
            · have d1 : (p == (X : Int)) = true := by simp [g]
              have d1' : (p != (X : Int)) = false := by simp [g]
              rw [if_pos g] at HSS
              have hyP2 := hyP g
              have hYX : Y ≠ X := fun e => HXP.out (by rw [← e]; exact hyP2)
              have HTY := Lib.hid (HT.out.told Y (by omega) hyP2)
              have hy0 : (0 : Int) ≤ (Y : Int) := by omega
              have hyM : (Y : Int) < (M : Int) := by omega
              have cox := HAx.out.over.cell (i := X) (by omega)
              have fox := HAx.out.over.frozen X
              have coy := HAx.out.over.cell (i := Y) (by omega)
              have cvx := HAx.out.ways.cell (i := X) (by omega)
              have fvx := HAx.out.ways.frozen X
              have cvy := HAx.out.ways.cell (i := Y) (by omega)
              rw [if_pos rfl] at cox cvx
              rw [if_neg hYX] at coy cvy
              have HTM := Lib.hid (tell_more HS.out HV.out HVX.out (HWN.out (Y : Int)) (by have := sF_nn HWN.out (l.take i) (X : Int); have := HB0.out; omega) HTY.out.over HTY.out.val (show b0 + sF T (l.take (i + 1)) (X : Int) = (b0 + sF T (l.take i) (X : Int)) + T (Y : Int) by rw [HSS.out]; omega))
              have hvx := HVX.out
              have hvy := HTY.out.nn
              have hvy2 := HTY.out.le
              have hYX2 : X ≠ Y := fun e => hYX e.symm
              clear g hyP hyP2 hy hem hb2 hlti
              obtain ⟨B, hB⟩ : ∃ B, Hid (O Y = B) := ⟨_, rfl⟩
              obtain ⟨VY, hVY⟩ : ∃ B, Hid (V Y = B) := ⟨_, rfl⟩
              rw [hB.out] at coy HTM
              rw [hVY.out] at cvy HTM hvy hvy2
              cases A with
              | true =>
                have HS2 : Hid (true = true ↔ MX < b0 + sF T (l.take (i + 1)) (X : Int)) := HTM.out.1
                have HAs : Hid (ArrR w2 w2.heap.size (w2.heap.size + 1) M (fun j => if j = X then VX else V j) (fun j => if j = X then true else O j) (wr.setCell ⟨w2.heap.size + 1, X, none⟩ (.bool true))) := (HAx.out.setO (by omega) (by omega) X true).congr (fun _ => rfl) (fun j => by by_cases e : j = X <;> simp [e])
                have cox2 := HAs.out.over.cell (i := X) (by omega)
                rw [if_pos rfl] at cox2
                clear hvx hvy hvy2 cvx cvy HTM
                go_wp2
                go_region
                go_wp2
                go_roundw
                case rel => exact ⟨i + 1, VX, true, hlti2.out, by go_num, (show true = true ↔ _ from ⟨fun _ => HS2.out.1 trivial, fun _ => rfl⟩), (fun h => by cases h), HVX, HAs.out.drew⟩
                case measure => have := hlti2.out; simp [intOf]; omega
              | false =>
                cases B with
                | true =>
                  have HS2 : Hid (true = true ↔ MX < b0 + sF T (l.take (i + 1)) (X : Int)) := HTM.out.1
                  have HAs : Hid (ArrR w2 w2.heap.size (w2.heap.size + 1) M (fun j => if j = X then VX else V j) (fun j => if j = X then true else O j) (wr.setCell ⟨w2.heap.size + 1, X, none⟩ (.bool true))) := (HAx.out.setO (by omega) (by omega) X true).congr (fun _ => rfl) (fun j => by by_cases e : j = X <;> simp [e])
                  have cox2 := HAs.out.over.cell (i := X) (by omega)
                  rw [if_pos rfl] at cox2
                  clear hvx hvy hvy2 cvx cvy HTM
                  go_wp2
                  go_region
                  go_wp2
                  go_roundw
                  case rel => exact ⟨i + 1, VX, true, hlti2.out, by go_num, (show true = true ↔ _ from ⟨fun _ => HS2.out.1 trivial, fun _ => rfl⟩), (fun h => by cases h), HVX, HAs.out.drew⟩
                  case measure => have := hlti2.out; simp [intOf]; omega
                | false =>
                  obtain ⟨D, hD⟩ : ∃ D : Int, Hid (MX - VX = D) := ⟨_, rfl⟩
                  rw [hD.out] at HTM
                  have eD : IntKind.i64.wrap (9223372036854775807 - VX) = D := by rw [wrapEq, ← hD.out]; unfold MX at *; unfold wrap64; omega
                  by_cases g : D < VY
                  · have dd : decide (D < VY) = true := decide_eq_true g
                    have HS2 : Hid (true = true ↔ MX < b0 + sF T (l.take (i + 1)) (X : Int)) := by have := HTM.out.1; rw [dd] at this; exact this
                    have HAs : Hid (ArrR w2 w2.heap.size (w2.heap.size + 1) M (fun j => if j = X then VX else V j) (fun j => if j = X then true else O j) (wr.setCell ⟨w2.heap.size + 1, X, none⟩ (.bool true))) := (HAx.out.setO (by omega) (by omega) X true).congr (fun _ => rfl) (fun j => by by_cases e : j = X <;> simp [e])
                    have cox2 := HAs.out.over.cell (i := X) (by omega)
                    rw [if_pos rfl] at cox2
                    clear hvx hvy hvy2 HTM g
                    go_wp2
                    go_region
                    go_wp2
                    go_roundw
                    case rel => exact ⟨i + 1, VX, true, hlti2.out, by go_num, (show true = true ↔ _ from ⟨fun _ => HS2.out.1 trivial, fun _ => rfl⟩), (fun h => by cases h), HVX, HAs.out.drew⟩
                    case measure => have := hlti2.out; simp [intOf]; omega
                  · have dd : decide (D < VY) = false := decide_eq_false g
                    have HS2 : Hid (false = true ↔ MX < b0 + sF T (l.take (i + 1)) (X : Int)) := by have := HTM.out.1; rw [dd] at this; exact this
                    have HV2 := HTM.out.2 (by rw [dd]; rfl)
                    have HAs : Hid (ArrR w2 w2.heap.size (w2.heap.size + 1) M (fun j => if j = X then VX else V j) (fun j => if j = X then false else O j) (wr.setCell ⟨w2.heap.size + 1, X, none⟩ (.bool false))) := (HAx.out.setO (by omega) (by omega) X false).congr (fun _ => rfl) (fun j => by by_cases e : j = X <;> simp [e])
                    have cox2 := HAs.out.over.cell (i := X) (by omega)
                    rw [if_pos rfl] at cox2
                    obtain ⟨S, hS⟩ : ∃ S : Int, Hid (VX + VY = S) := ⟨_, rfl⟩
                    have eS : IntKind.i64.wrap (VX + VY) = S := by rw [wrapEq, ← hS.out]; have := HV2.2; unfold MX at *; unfold wrap64; omega
                    rw [hS.out] at HV2
                    have HV3 : Hid (0 ≤ S ∧ S ≤ MX) := ⟨by have := hS.out; omega, HV2.2⟩
                    have HV4 : Hid (false = false → S = b0 + sF T (l.take (i + 1)) (X : Int)) := fun _ => HV2.1
                    have cvx3 := HAs.out.ways.cell (i := X) (by omega)
                    have cvy3 := HAs.out.ways.cell (i := Y) (by omega)
                    have fvx3 := HAs.out.ways.frozen X
                    rw [if_pos rfl] at cvx3
                    rw [if_neg hYX, hVY.out] at cvy3
                    have HAt : Hid (ArrR w2 w2.heap.size (w2.heap.size + 1) M (fun j => if j = X then S else V j) (fun j => if j = X then false else O j) ((wr.setCell ⟨w2.heap.size + 1, X, none⟩ (.bool false)).setCell ⟨w2.heap.size, X, none⟩ (.int .i64 S))) := (HAs.out.setV (by omega) (by omega) X S).congr (fun j => by by_cases e : j = X <;> simp [e]) (fun _ => rfl)
                    clear hvx hvy hvy2 HTM g HV2
                    go_wp2
                    go_region
                    go_wp2
                    go_region
                    go_wp2
                    go_roundw
                    case rel => exact ⟨i + 1, S, false, hlti2.out, by go_num, HS2, (fun _ => HV4.out trivial), HV3, HAt.out.drew.drew⟩
                    case measure => have := hlti2.out; simp [intOf]; omega
            · have d1 : (p == (X : Int)) = false := beq_eq_false_iff_ne.2 g
              have d1' : (p != (X : Int)) = true := by simp [g]
              rw [if_neg g] at HSS
              have HS2 : Hid (A = true ↔ MX < b0 + sF T (l.take (i + 1)) (X : Int)) := by rw [HSS.out]; exact HS.out
              have HV2 : Hid (A = false → VX = b0 + sF T (l.take (i + 1)) (X : Int)) := by rw [HSS.out]; exact HV.out
              clear g hy hyP hem hb2 hlti
              go_wp2
              go_roundw
              case rel => exact ⟨i + 1, VX, A, hlti2.out, by go_num, HS2, HV2, HVX, HAx⟩
              case measure => have := hlti2.out; simp [intOf]; omega
          · have hie : i = l.length := by omega
            have hge : ¬ (i : Int) < (l.length : Int) := by omega
            rw [hie, List.take_length, HN2.out] at HS HV
            have HT2 : Hid (RInv N T' P' (fun j => if j = X then VX else V j) (fun j => if j = X then A else O j)) := by
              refine ⟨fun j hj hm => ?_, fun j hj hm => ?_⟩
              · by_cases e : j = X
                · subst e
                  refine ⟨?_, ?_, ?_, ?_⟩
                  · simp only [if_pos]; exact HS.out
                  · simp only [if_pos]; exact HV.out
                  · simp only [if_pos]; exact HVX.out.1
                  · simp only [if_pos]; exact HVX.out.2
                · rw [HTK.out, List.mem_append, List.mem_singleton] at hm
                  have h1 := HT.out.told j hj (by rcases hm with h | h; exact h; omega)
                  have h2 := HOF.out (j : Int) (by omega)
                  refine ⟨?_, ?_, ?_, ?_⟩
                  · simp only [if_neg e]; rw [h2]; exact h1.over
                  · simp only [if_neg e]; rw [h2]; exact h1.val
                  · simp only [if_neg e]; exact h1.nn
                  · simp only [if_neg e]; exact h1.le
              · rw [HTK.out, List.mem_append, List.mem_singleton] at hm
                have e : j ≠ X := fun e => hm (.inr (by rw [e]))
                simp only [if_neg e]
                exact HT.out.rest j hj (fun h => hm (.inl h))
            have HLT : Hid (k < xs.length) := hlt
            clear hlti hie
            go_wp2
            go_roundw
            case rel => exact ⟨k + 1, _, _, HLT.out, by go_num, by rw [hT'.out, hP'.out]; exact HT2, HAx⟩
            case measure => have := HLT.out; simp [intOf]; omega
    · have hke : k = xs.length := by omega
      have hge : ¬ (k : Int) < (xs.length : Int) := by omega
      rw [hke, List.take_length] at HT
      have hT := HT.out.told F HFZ.out.2.2.2.1 (HFULL.out F HFZ.out.2.2.1 HFZ.out.2.2.2.1)
      have cof := HAr.out.over.cell (i := F) (by omega)
      have cvf := HAr.out.ways.cell (i := F) (by omega)
      have HBB : Hid (Below w.heap.size w wr) := HBW.out.trans (HAr.out.bel.mono HBW.out.size)
      obtain ⟨A, hA⟩ : ∃ A, Hid (O F = A) := ⟨_, rfl⟩
      obtain ⟨VF, hVF⟩ : ∃ A, Hid (V F = A) := ⟨_, rfl⟩
      rw [hA.out] at cof
      rw [hVF.out] at cvf
      have hvv := HVV.out
      have h1 := hT.over
      have h2 := hT.val
      rw [hA.out] at h1 h2
      rw [hVF.out] at h2
      generalize wyT (Z : Int) l xs xs.length (F : Int) = R at *
      cases A with
      | true =>
        have h3 : ¬ R ≤ MX := by have := h1.1 rfl; omega
        rw [← hvv] at h3
        have e1 : RV = 0 := HRR.out.1.symm.trans (if_neg h3)
        have e2 : RE = 5 := HRR.out.2.symm.trans (if_neg h3)
        subst e1
        subst e2
        clear h1 h2 h3 hT hlt hke hvv
        go_wp2
        go_ret2
        exact ⟨rfl, HBB.out⟩
      | false =>
        have h3 : R ≤ MX := by
          by_cases e : MX < R
          · have := h1.2 e; cases this
          · omega
        rw [← hvv] at h3
        have e1 : RV = VF := HRR.out.1.symm.trans ((if_pos h3).trans (hvv.trans (h2 rfl).symm))
        have e2 : RE = 0 := HRR.out.2.symm.trans (if_pos h3)
        subst e1
        subst e2
        clear h1 h2 h3 hT hlt hke hvv
        go_wp2
        go_ret2
        exact ⟨rfl, HBB.out⟩
end Gra
end Go.Proofs.Ytjdkkldlghdojaa
