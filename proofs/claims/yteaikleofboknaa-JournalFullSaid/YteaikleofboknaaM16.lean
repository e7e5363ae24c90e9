/- Texts put together: JrN. -/
import Derived.Test.YteaikleofboknaaM15
import Derived.Deep.Cut
import Derived.Deep.CutBlock
import Derived.Deep.DeepCutAuto
import Derived.Deep.RegionLaw
import Derived.Deep.AppendLies
import Derived.StillTailTactics
import Derived.Deep.RegionWith
set_option linter.all false
section
set_option maxRecDepth 100000
namespace Go.Proofs.Yteaikleofboknaa
open Go.RowKit Go.Great Go.Maps
namespace Jrn
open Frm (fits num put scan strs rows allS allE oks ok cats)
open In (strVals Strs)
open Dsk (below2 below_al below_dN DkIn PD Bx Dok FileIn newD namesV)
theorem u16_and_4095 (n : Int) (h : (Lit.int .u16 n).wf = true) : ∃ m : Nat, m ≤ 4095 ∧ bits .and .u16 n 4095 = (m : Int) := by
  refine ⟨(bits .and .u16 n 4095).toNat, ?_, ?_⟩
  all_goals
    have e : bits .and .u16 n 4095 = n % 4096 := by
      show IntKind.u16.wrap ((BitVec.ofInt 16 n &&& BitVec.ofInt 16 4095).toNat : Int) = _
      simp [Lit.wf, IntKind.min, IntKind.max, IntKind.signed, IntKind.bits] at h
      rw [BitVec.toNat_and, show (BitVec.ofInt 16 4095).toNat = 2 ^ 12 - 1 from rfl, Nat.and_two_pow_sub_one_eq_mod, BitVec.toNat_ofInt]
      have h2 : ((n % ((2 ^ 16 : Nat) : Int)).toNat : Int) = n := by omega
      have h3 : (((n % ((2 ^ 16 : Nat) : Int)).toNat % 2 ^ 12 : Nat) : Int) = n % 4096 := by rw [Int.natCast_emod, h2]; omega
      rw [h3]
      simp only [IntKind.wrap]
      simp [IntKind.signed, IntKind.bits]
      omega
    rw [e]
    omega
set_option maxHeartbeats 8000000 in
theorem full_walk (z0 : Int) (hz0 : (Lit.int .u16 z0).wf = true) (v1 : Value) (acts : List ActK) {w : World} (hA : IsActsK w v1 acts) : Calls Try.prog 3 #[.int .u16 z0, v1] w fun e w' => e = .returned (.bool true) ∧ Below w.heap.size w w' := by
  obtain ⟨mm, hmm, hz⟩ := u16_and_4095 z0 hz0
  obtain ⟨aa, acap, rfl, hal, hac, hai⟩ := hA
  have HAC := Lib.hid hac
  have HAI := Lib.hid hai
  have AW : Hid (∀ W, Calls Try.prog 8 #[] W fun e w' => e = .returned (.bool true) ∧ Below W.heap.size W w') := awake_any
  have SM : Hid (∀ W, Below w.heap.size w W → Calls Try.prog 7 #[.slice aa acts.length acap, .int .i64 30] W fun e w' => (∃ r, e = .returned (.bool r) ∧ (r = true → acts.length ≤ 30 ∧ ∀ i, i < acts.length → FewK (acts.getD i noK))) ∧ Below W.heap.size W w') := fun W hb => small33_any W aa acap acts hal (HAC.out.below hb)
  obtain ⟨R, hR⟩ : ∃ R : Int, Hid (32 + (mm : Int) = R) := ⟨_, rfl⟩
  have R0 : 32 ≤ R := by have := hR.out; omega
  have R1 : R ≤ 4127 := by have := hR.out; omega
  obtain ⟨g, hg⟩ : ∃ g, g = w.heap.size + 1 := ⟨_, rfl⟩
  obtain ⟨m, hm⟩ : ∃ m, m = w.heap.size := ⟨_, rfl⟩
  have NEW : Hid (Calls Try.prog 6 #[.int .i64 (32 + (mm : Int))] w fun e w' => e = .returned (.tuple #[.pointer (some ⟨g, 0, none⟩), .int .i64 0]) ∧ Hid (PD w' g m 0 (newD R)) ∧ Hid (Below w.heap.size w w')) := by
    rw [hg, hm, hR.out]
    exact Dsk.new_any w R (by omega)
  have hg' : w.heap.size ≤ g := by omega
  have hm' : w.heap.size ≤ m := by omega
  clear hg hm
  have hI : (openV (newD R) 0).1 = 0 ∧ Open' (openV (newD R) 0).2 S0 3 17 ∧ Calm (openV (newD R) 0).2 ∧ (openV (newD R) 0).2.room = (newD R).room := calm_open (S := S0) (new_rest R) (gr_new (z := R) (by omega)) (by decide) (by decide) (by show (0 : Int) + 17 ≤ R + _; omega) (new_calm R)
  have O1 : Hid (∀ W, PD W g m 0 (newD R) → Calls Try.prog 9 #[.pointer (some ⟨g, 0, none⟩)] W fun e w' => ∃ j a cap, e = .returned (.tuple #[.pointer (some ⟨j, 0, none⟩), .agg #[.int .i64 0, .bool false, .string ⟨#[]⟩, .slice a 0 cap], .int .i64 0]) ∧ Hid (JR w' j g 0 0 false) ∧ W.heap.size ≤ j ∧ Hid (Recs w' W.heap.size a []) ∧ (a = none → cap = 0) ∧ Hid (PD w' g m (openV (newD R) 0).2.files.length (openV (newD R) 0).2) ∧ Hid (Bx g m W w')) := fun W hp =>
    open_ok W g m 0 0 (newD R) ⟨hp, gr_new (by omega)⟩ (by decide) (by decide) S0 (new_rest R) (by decide) (by decide) (by decide) hI.1
  have HI := Lib.hid hI.2
  clear hI hac hai hz0
  generalize (openV (newD R) 0).2 = dI at *
  unfold maxLen at hal
  obtain ⟨L, hL⟩ : ∃ L, Hid (acts.length = L) := ⟨_, rfl⟩
  rw [hL.out] at SM hal ⊢
  go_enter Try.func3, Try.ntmps3
  go_wp2_with (first
    | (go_at_call 6; (with_reducible refine NEW.out.mono ?_); rintro e w1 ⟨rfl, HP1, HB1⟩)
    | (go_at_call 7; (with_reducible refine (SM.out _ HB1.out).mono ?_); rintro e w2 ⟨⟨r, rfl, hr⟩, hb2⟩; have HB2 := Lib.hid (below2 HB1.out hb2); have HP2 := Lib.hid (HP1.out.below hb2); clear hb2; cases r)
    | (go_at_call 8; (with_reducible refine (AW.out _).mono ?_); rintro e wa ⟨rfl, hba⟩; have HBa := Lib.hid (below2 HB2.out hba); clear hba)
    | (go_at_call 9; (with_reducible refine (O1.out _ HP2.out).mono ?_); rintro e w3 ⟨j, sa, sc, rfl, HJ3, hjw, HR3, hnil, HP3, HX3⟩; have HB3 := Lib.hid (bx_below HB2.out HX3.out hg' hm'); have hjg : j ≠ g := (by have := HP2.out.lt.1; omega); have hjm : j ≠ m := (by have := HP2.out.lt.2; omega); have hj' : w.heap.size ≤ j := Nat.le_trans HB2.out.size hjw))
  · go_ret
    exact ⟨rfl, HBa.out⟩
  · obtain ⟨hL30, hfew⟩ := hr trivial
    have HFE := Lib.hid hfew
    obtain ⟨nb, hnb⟩ : ∃ nb, Hid (w3.heap.size = nb) := ⟨_, rfl⟩
    have HF0 : Hid (FS w (w3.alloc (.cells #[.int .i64 0, .bool false, .string ⟨#[]⟩, .slice sa 0 sc] 33)) g m nb j S0 dI sa sc 3 17 0) := by
      have hl := HP3.out.lt
      have hj3 := HJ3.out.lt
      have hn := hnb.out
      refine ⟨HI.out.1, HI.out.2.1, HP3.out.below (below_al (Below.refl _ _) _), HJ3.out.below (below_al (Below.refl _ _) _), ?_, HR3.out.lie.below (below_al (Below.refl _ _) _), fun h => absurd rfl h, hnil, below_al HB3.out _, ⟨hg', hm', hj', ?_⟩, ⟨hjg, hjm, by omega, by omega, by omega⟩, ⟨by decide, by decide, by decide⟩, by decide, by decide⟩
      · rw [← hn]; exact Own.heap_new _ _
      · have := HB3.out.size; omega
    rw [hnb.out]
    generalize w3.alloc (.cells #[.int .i64 0, .bool false, .string ⟨#[]⟩, .slice sa 0 sc] 33) = W3 at *
    clear hr hfew SM O1 NEW HI HP1 HB1 HB2 HP2 HP3 HX3 HB3 HJ3 HR3
    go_loopw [7, 10] (fun vj vi wr => ∃ (i j : Nat) (S : SavedIn) (d : DkIn) (a : Option Addr) (cap k B : Nat), i ≤ L ∧ vi = .int .i64 (i : Int) ∧ vj = .pointer (some ⟨j, 0, none⟩) ∧ Hid (FS w wr g m nb j S d a cap k B i)) (fun _ vi _ => L - (intOf vi).toNat)
    case atStart => exact ⟨0, j, S0, dI, sa, sc, 3, 17, Nat.zero_le _, rfl, rfl, HF0.out⟩
    case round =>
      clear hjg hjm hj' hnil HF0
      obtain ⟨i, j, S, d, a, cap, k, B, hil, rfl, rfl, HF⟩ := hrel
      by_cases hi : i < L
      · have di : decide ((i : Int) < (L : Int)) = true := decide_eq_true (by omega)
        have hi1 : (i : Int) < (L : Int) := by omega
        obtain ⟨n0, n1, n2, n3, n4⟩ := HF.out.cells
        obtain ⟨bk, off, rfl, hbk, hc⟩ := HAC.out i (by rw [hL.out]; exact hi)
        have hcc : ∀ j, j < 11 → wr.cell? ⟨bk, off + (i * 11 + j), none⟩ = (acts.getD i noK).row[j]? := fun j hj => (HF.out.bel.cell (p := ⟨bk, off + (i * 11 + j), none⟩) hbk).trans (hc j hj)
        have hbl : bk < wr.heap.size := Nat.lt_of_lt_of_le hbk HF.out.bel.size
        have hfi := HFE.out i hi
        have hki := HAI.out i (by rw [hL.out]; exact hi)
        have c0 := hcc 0 (by decide)
        have c1 := hcc 1 (by decide)
        have c2 := hcc 2 (by decide)
        have c3 := hcc 3 (by decide)
        have c4 := hcc 4 (by decide)
        have c5 := hcc 5 (by decide)
        have c6 := hcc 6 (by decide)
        have c7 := hcc 7 (by decide)
        have c8 := hcc 8 (by decide)
        have c9 := hcc 9 (by decide)
        have c10 := hcc 10 (by decide)
        clear hcc hc
        generalize acts.getD i noK = x at *
        obtain ⟨kind, nn, arg, half, keep, ka, kc, D⟩ := x
        obtain ⟨⟨dk1, dn, dname, darg, dh, dkeep⟩, dka, dkc⟩ := D
        simp [ActK.row] at c0 c1 c2 c3 c4 c5 c6 c7 c8 c9 c10
        rw [← Nat.add_assoc] at c1 c2 c3 c4 c5 c6 c7 c8 c9 c10
        obtain ⟨AR, hAR⟩ : ∃ A : ByteArray, Hid (ByteArray.mk arg.toArray = A) := ⟨_, rfl⟩
        have sAR : AR.size ≤ 300 := by rw [← hAR.out]; show arg.toArray.size ≤ _; rw [List.size_toArray]; exact hfi.1
        rw [hAR.out] at c2
        have hkin := hki.kind
        obtain ⟨i0, hi, hz0, hz1, hz2⟩ := info_parts Frm.sinfo
        obtain ⟨AC, hAC⟩ : ∃ AC : Array Value, Hid (#[.int .i64 kind, .int .i64 nn, .string AR, .bool half, .slice ka keep.length kc, .int .i64 dk1, .int .i64 dn, .string ⟨dname.toArray⟩, .string ⟨darg.toArray⟩, .bool dh, .slice dka dkeep.length dkc] = AC) := ⟨_, rfl⟩
        go_upto_block 2 with (fail)
        go_cut [7, 12] (fun v7 v12 wx => ∃ (j z : Int) (jj : Nat) (T NX : SavedIn) (d : DkIn) (a2 : Option Addr) (cap2 k B : Nat), v7 = .pointer (some ⟨jj, 0, none⟩) ∧ v12 = .int .i64 z ∧ Went z kind arg S T NX ∧ Hid (PS w wx g m nb wr.heap.size jj AC S T NX d a cap a2 cap2 k B i))
        case first =>
          obtain ⟨V, hV⟩ : ∃ V, Hid (((wr.alloc (.cells #[.int .i64 kind, .int .i64 nn, .string AR, .bool half, .slice ka keep.length kc, .int .i64 dk1, .int .i64 dn, .string ⟨dname.toArray⟩, .string ⟨darg.toArray⟩, .bool dh, .slice dka dkeep.length dkc] 40)).alloc (.cells #[.int .i64 (S.gen : Int), .bool S.has, .string ⟨S.base.toArray⟩, .slice a S.recs.length cap] 33)) = V) := ⟨_, rfl⟩
          have hbV : Below wr.heap.size wr V := by rw [← hV.out]; exact below_al (below_al (Below.refl _ _) _) _
          obtain ⟨hgl, hml⟩ := HF.out.pd.lt
          have hjl := HF.out.jr.lt
          have hVs : V.heap.size = wr.heap.size + 2 := by rw [← hV.out]; simp
          obtain ⟨o1, o2, o3, o4, o5⟩ := HF.out.ne
          obtain ⟨l1, l2, l3, l4⟩ := HF.out.lo
          have hfw := HF.out.few
          have hk' := HF.out.k'
          have hB' := HF.out.B'
          have vA : V.heap[wr.heap.size]? = some (.cells AC 40) := by rw [← hV.out, ← hAC.out]; exact heap_alloc2_old wr _ _
          have vX : V.heap[wr.heap.size + 1]? = some (.cells (savedRow S a cap) 33) := by rw [← hV.out]; exact heap_alloc2_new wr _ _
          have vN : V.heap[nb]? = some (.cells (savedRow S a cap) 33) := (hbV.block nb n4).trans HF.out.now
          have vRC : Hid (∀ W', (∀ x, S.recs ≠ [] → a = some x → W'.heap[x.block]? = V.heap[x.block]? ∧ x.block < W'.heap.size) → Strs W' a (rows S.recs)) := fun W' h => by
            by_cases hn : S.recs = []
            · rw [hn]; exact fun i hi => absurd hi (Nat.not_lt_zero i)
            · exact strs_keep HF.out.rcs fun x hx => ⟨(h x hn hx).1.trans (hbV.block x.block (HF.out.own hn x hx).1), (h x hn hx).2⟩
          have hPV := Lib.hid (HF.out.pd.below hbV)
          have hJV := Lib.hid (HF.out.jr.below hbV)
          have hnil := HF.out.nil
          by_cases h1 : kind = 1
          · subst h1
            have AP := Lib.hid (app_any V g m j S d k B HF.out.op HF.out.calm (by omega) hPV.out hJV.out o1 o2 (by omega) AR sAR)
            go_upto_region 20 with (go_at_call 10; rw [hV.out]; (with_reducible refine AP.out.mono ?_); rintro e w5 ⟨z, rfl, HAP, HBJ⟩)
            have hsz5 := HBJ.out.size
            have rA := (HBJ.out.block wr.heap.size (by omega) (by omega) (by omega) (by omega)).trans vA
            have rX := (HBJ.out.block (wr.heap.size + 1) (by omega) (by omega) (by omega) (by omega)).trans vX
            have rN := (HBJ.out.block nb (by omega) o3 o4 o5).trans vN
            have hRC : Hid (Strs w5 a (rows S.recs)) := vRC.out w5 fun x hn hx => by
              obtain ⟨p1, p2, p3, p4, p5⟩ := HF.out.own hn x hx
              exact ⟨HBJ.out.block x.block (by omega) p2 p3 p4, by omega⟩
            have RN := Lib.hid rN
            have RA := Lib.hid rA
            have RX := Lib.hid rX
            have m0 : w5.cell? ⟨nb, 0, none⟩ = some (.int .i64 (S.gen : Int)) := cell_of_row w5 _ 0 _ _ _ rN
            have m1 : w5.cell? ⟨nb, 1, none⟩ = some (.bool S.has) := cell_of_row w5 _ 1 _ _ _ rN
            have m2 : w5.cell? ⟨nb, 2, none⟩ = some (.string ⟨S.base.toArray⟩) := cell_of_row w5 _ 2 _ _ _ rN
            have m3 : w5.cell? ⟨nb, 3, none⟩ = some (.slice a S.recs.length cap) := cell_of_row w5 _ 3 _ _ _ rN
            have a2 : w5.cell? ⟨wr.heap.size, 2, none⟩ = some (.string AR) := (cell_of_row w5 _ 2 _ _ _ rA).trans (by rw [← hAC.out]; rfl)
            have x0 : w5.cell? ⟨wr.heap.size + 1, 0, none⟩ = some (.int .i64 (S.gen : Int)) := cell_of_row w5 _ 0 _ _ _ rX
            have x1 : w5.cell? ⟨wr.heap.size + 1, 1, none⟩ = some (.bool S.has) := cell_of_row w5 _ 1 _ _ _ rX
            have x2 : w5.cell? ⟨wr.heap.size + 1, 2, none⟩ = some (.string ⟨S.base.toArray⟩) := cell_of_row w5 _ 2 _ _ _ rX
            have x3 : w5.cell? ⟨wr.heap.size + 1, 3, none⟩ = some (.slice a S.recs.length cap) := cell_of_row w5 _ 3 _ _ _ rX
            have y0 := frozen_of_row w5 _ 0 _ _ rX
            have y1 := frozen_of_row w5 _ 1 _ _ rX
            have y2 := frozen_of_row w5 _ 2 _ _ rX
            have y3 := frozen_of_row w5 _ 3 _ _ rX
            have hnl5 : nb < w5.heap.size := by omega
            have hal5 : wr.heap.size < w5.heap.size := by omega
            have hxl5 : wr.heap.size + 1 < w5.heap.size := by omega
            have hrl : S.recs.length ≤ 1000 := by omega
            clear rA rX rN c0 c1 c2 c3 c4 c5 c6 c7 c8 c9 c10 n0 n1 n2 n3 vA vX vN
            have HFC : Hid (∀ W, Below w5.heap.size w5 W → (W.cell? ⟨nb, 0, none⟩ = some (.int .i64 (S.gen : Int)) ∧ W.cell? ⟨nb, 1, none⟩ = some (.bool S.has) ∧ W.cell? ⟨nb, 2, none⟩ = some (.string ⟨S.base.toArray⟩) ∧ W.cell? ⟨nb, 3, none⟩ = some (.slice a S.recs.length cap)) ∧ W.cell? ⟨wr.heap.size, 2, none⟩ = some (.string AR) ∧ (W.cell? ⟨wr.heap.size + 1, 0, none⟩ = some (.int .i64 (S.gen : Int)) ∧ W.cell? ⟨wr.heap.size + 1, 1, none⟩ = some (.bool S.has) ∧ W.cell? ⟨wr.heap.size + 1, 2, none⟩ = some (.string ⟨S.base.toArray⟩) ∧ W.cell? ⟨wr.heap.size + 1, 3, none⟩ = some (.slice a S.recs.length cap)) ∧ (W.frozen? ⟨wr.heap.size + 1, 0, none⟩ = false ∧ W.frozen? ⟨wr.heap.size + 1, 1, none⟩ = false ∧ W.frozen? ⟨wr.heap.size + 1, 2, none⟩ = false ∧ W.frozen? ⟨wr.heap.size + 1, 3, none⟩ = false) ∧ (nb < W.heap.size ∧ wr.heap.size < W.heap.size ∧ wr.heap.size + 1 < W.heap.size)) := fun W hb => by
              have hs := hb.size
              have hc := fun k (hk : k < w5.heap.size) i => hb.cell (p := ⟨k, i, none⟩) hk
              have hr := (hb.block (wr.heap.size + 1) hxl5).trans RX.out
              exact ⟨⟨(hc nb hnl5 0).trans m0, (hc nb hnl5 1).trans m1, (hc nb hnl5 2).trans m2, (hc nb hnl5 3).trans m3⟩, (hc _ hal5 2).trans a2, ⟨(hc _ hxl5 0).trans x0, (hc _ hxl5 1).trans x1, (hc _ hxl5 2).trans x2, (hc _ hxl5 3).trans x3⟩, ⟨frozen_of_row W _ 0 _ _ hr, frozen_of_row W _ 1 _ _ hr, frozen_of_row W _ 2 _ _ hr, frozen_of_row W _ 3 _ _ hr⟩, by omega, by omega, by omega⟩
            have hb6 : Hid (Below w5.heap.size w5 w5.drew) := (Below.refl _ _).drew
            have HSF : Hid (∀ W, Below w5.heap.size w5 W → (W.cell? ⟨nb, 0, none⟩ = some (.int .i64 (S.gen : Int)) ∧ W.cell? ⟨nb, 1, none⟩ = some (.bool S.has) ∧ W.cell? ⟨nb, 2, none⟩ = some (.string ⟨S.base.toArray⟩) ∧ W.cell? ⟨nb, 3, none⟩ = some (.slice a S.recs.length cap) ∧ W.cell? ⟨wr.heap.size, 2, none⟩ = some (.string AR))) := fun W hb => by
              obtain ⟨⟨q0, q1, q2, q3⟩, q4, -⟩ := HFC.out W hb
              exact ⟨q0, q1, q2, q3, q4⟩
            have hHeld := HSF.out _ hb6.out
            refine Ord.wp_region_U (fun W' => W'.cell? ⟨nb, 0, none⟩ = some (.int .i64 (S.gen : Int)) ∧ W'.cell? ⟨nb, 1, none⟩ = some (.bool S.has) ∧ W'.cell? ⟨nb, 2, none⟩ = some (.string ⟨S.base.toArray⟩) ∧ W'.cell? ⟨nb, 3, none⟩ = some (.slice a S.recs.length cap) ∧ W'.cell? ⟨wr.heap.size, 2, none⟩ = some (.string AR)) [14, 15] (by kernel_rfl) ?_
            clear m0 m1 m2 m3 a2 x0 x1 x2 x3 y0 y1 y2 y3
            generalize w5.drew = W6 at *
            refine take_at (i := 0) (v := ?_) 98 rfl rfl (by kernel_rfl) (by kernel_rfl) (by kernel_rfl) (by kernel_rfl) (by kernel_rfl) (by kernel_rfl) (by kernel_rfl) (fun _ _ _ h => h) (Or.inl ⟨by kernel_rfl, ?_⟩) hHeld ?_
            rotate_left
            · intro w hSw; (try dsimp only at hSw); (try obtain ⟨f0, f1, f2, f3, f4⟩ := hSw); go_simp; (try with_reducible rfl)
            try simp only [Act.put, List.setIfInBounds_toArray, List.set_cons_zero, List.set_cons_succ]
            refine take_at (i := 1) (v := ?_) 99 rfl rfl (by kernel_rfl) (by kernel_rfl) (by kernel_rfl) (by kernel_rfl) (by kernel_rfl) (by kernel_rfl) (by kernel_rfl) (fun _ _ _ h => h) (Or.inl ⟨by kernel_rfl, ?_⟩) hHeld ?_
            rotate_left
            · intro w hSw; (try dsimp only at hSw); (try obtain ⟨f0, f1, f2, f3, f4⟩ := hSw); go_simp; (try with_reducible rfl)
            try simp only [Act.put, List.setIfInBounds_toArray, List.set_cons_zero, List.set_cons_succ]
            refine take_at (i := 2) (v := ?_) 100 rfl rfl (by kernel_rfl) (by kernel_rfl) (by kernel_rfl) (by kernel_rfl) (by kernel_rfl) (by kernel_rfl) (by kernel_rfl) (fun _ _ _ h => h) (Or.inl ⟨by kernel_rfl, ?_⟩) hHeld ?_
            rotate_left
            · intro w hSw; (try dsimp only at hSw); (try obtain ⟨f0, f1, f2, f3, f4⟩ := hSw); go_simp; (try with_reducible rfl)
            try simp only [Act.put, List.setIfInBounds_toArray, List.set_cons_zero, List.set_cons_succ]
            refine take_at (i := 3) (v := ?_) 101 rfl rfl (by kernel_rfl) (by kernel_rfl) (by kernel_rfl) (by kernel_rfl) (by kernel_rfl) (by kernel_rfl) (by kernel_rfl) (fun _ _ _ h => h) (Or.inl ⟨by kernel_rfl, ?_⟩) hHeld ?_
            rotate_left
            · intro w hSw; (try dsimp only at hSw); (try obtain ⟨f0, f1, f2, f3, f4⟩ := hSw); go_simp; (try with_reducible rfl)
            try simp only [Act.put, List.setIfInBounds_toArray, List.set_cons_zero, List.set_cons_succ]
            refine take_at (i := 4) (v := ?_) 102 rfl rfl (by kernel_rfl) (by kernel_rfl) (by kernel_rfl) (by kernel_rfl) (by kernel_rfl) (by kernel_rfl) (by kernel_rfl) (fun _ _ _ h => h) (Or.inl ⟨by kernel_rfl, ?_⟩) hHeld ?_
            rotate_left
            · intro w hSw; (try dsimp only at hSw); (try obtain ⟨f0, f1, f2, f3, f4⟩ := hSw); go_simp; (try with_reducible rfl)
            try simp only [Act.put, List.setIfInBounds_toArray, List.set_cons_zero, List.set_cons_succ]
            refine take_at (i := 5) (v := ?_) 103 rfl rfl (by kernel_rfl) (by kernel_rfl) (by kernel_rfl) (by kernel_rfl) (by kernel_rfl) (by kernel_rfl) (by kernel_rfl) (fun _ _ _ h => h) (Or.inl ⟨by kernel_rfl, ?_⟩) hHeld ?_
            rotate_left
            · intro w hSw; (try dsimp only at hSw); (try obtain ⟨f0, f1, f2, f3, f4⟩ := hSw); go_simp; (try with_reducible rfl)
            try simp only [Act.put, List.setIfInBounds_toArray, List.set_cons_zero, List.set_cons_succ]
            refine take_at (i := 7) (v := ?_) 105 rfl rfl (by kernel_rfl) (by kernel_rfl) (by kernel_rfl) (by kernel_rfl) (by kernel_rfl) (by kernel_rfl) (by kernel_rfl) (fun _ _ _ h => h) (Or.inl ⟨by kernel_rfl, ?_⟩) hHeld ?_
            rotate_left
            · intro w hSw; (try dsimp only at hSw); (try obtain ⟨f0, f1, f2, f3, f4⟩ := hSw); go_simp; (try with_reducible rfl)
            try simp only [Act.put, List.setIfInBounds_toArray, List.set_cons_zero, List.set_cons_succ]
            refine take_at (i := 8) (v := ?_) 106 rfl rfl (by kernel_rfl) (by kernel_rfl) (by kernel_rfl) (by kernel_rfl) (by kernel_rfl) (by kernel_rfl) (by kernel_rfl) (fun _ _ _ h => h) (Or.inl ⟨by kernel_rfl, ?_⟩) hHeld ?_
            rotate_left
            · intro w hSw; (try dsimp only at hSw); (try obtain ⟨f0, f1, f2, f3, f4⟩ := hSw); go_simp; (try with_reducible rfl)
            try simp only [Act.put, List.setIfInBounds_toArray, List.set_cons_zero, List.set_cons_succ]
            refine take_at (i := 10) (v := ?_) 108 rfl rfl (by kernel_rfl) (by kernel_rfl) (by kernel_rfl) (by kernel_rfl) (by kernel_rfl) (by kernel_rfl) (by kernel_rfl) (fun _ _ _ h => h) (Or.inl ⟨by kernel_rfl, ?_⟩) hHeld ?_
            rotate_left
            · intro w hSw; (try dsimp only at hSw); (try obtain ⟨f0, f1, f2, f3, f4⟩ := hSw); go_simp; (try with_reducible rfl)
            try simp only [Act.put, List.setIfInBounds_toArray, List.set_cons_zero, List.set_cons_succ]
            refine take_at (i := 11) (v := ?_) 109 rfl rfl (by kernel_rfl) (by kernel_rfl) (by kernel_rfl) (by kernel_rfl) (by kernel_rfl) (by kernel_rfl) (by kernel_rfl) (fun _ _ _ h => h) (Or.inl ⟨by kernel_rfl, ?_⟩) hHeld ?_
            rotate_left
            · intro w hSw; (try dsimp only at hSw); (try obtain ⟨f0, f1, f2, f3, f4⟩ := hSw); go_simp; (try with_reducible rfl)
            try simp only [Act.put, List.setIfInBounds_toArray, List.set_cons_zero, List.set_cons_succ]
            refine Ord.wpAnyU_two (i := 6) (j := 12) (by kernel_rfl) rfl rfl (fun K hK => ?_) (fun K hK => ?_)
            · go_simp
              have q1 : Hid (Below w5.heap.size w5 (W6.alloc (Obj.cells #[] 9))) := below_al hb6.out _
              have g1 : Hid ((W6.alloc (Obj.cells #[] 9)).ownsRow w5.heap.size 9 1 (.slice (some ⟨W6.heap.size, 0, none⟩) 0 0) 0 (strVals [])) := own_empty (heap_alloc_new W6 _) hb6.out.size
              refine hK.out _ _ (fun _ => HSF.out _ q1.out) ?_
              clear hK K
              try simp only [Act.put, List.setIfInBounds_toArray, List.set_cons_zero, List.set_cons_succ]
              refine Ord.wpAnyU_two (i := 9) (j := 12) (by kernel_rfl) rfl rfl (fun K hK => ?_) (fun K hK => ?_)
              · refine step_recs rfl (.tmp 104) (.tmp 106) 31 rfl w5.heap.size 9 i0 _ Try.underlying31 hi hz0 hz1 hz2 rfl (.slice (some ⟨W6.heap.size, 0, none⟩) 0 0) 0 [] rfl ?ho a S.recs.length cap (rows S.recs) rfl (rows_length _) hnil ?hs ?hn ?hb ?_
                case ho => exact g1.out
                case hs => exact hRC.out.below q1.out
                case hn => omega
                case hb => exact q1.out.size
                intro v7 w7 hown7 hgrow7 hB7
                have hb7 := Lib.hid (hB7 _ q1.out)
                have hO7 := Lib.hid hown7
                clear hown7 hgrow7 hB7
                refine hK.out _ _ (fun _ => HSF.out _ hb7.out) ?_
                clear hK K
                try simp only [Act.put, List.setIfInBounds_toArray, List.set_cons_zero, List.set_cons_succ]
                refine Ord.wpAnyU_one (i := 12) (by kernel_rfl) rfl (fun K hK => ?_)
                go_simp
                have hbc : Hid (Below w5.heap.size w5 (w7.alloc (Obj.cells #[Value.string AR] 9))) := below_al hb7.out _
                have hoc := hO7.out.alloc (Obj.cells #[Value.string AR] 9)
                have hst : Strs (w7.alloc (Obj.cells #[Value.string AR] 9)) (some ⟨w7.heap.size, 0, none⟩) [AR] := strs_one1 (Own.cell_new w7 _ _)
                refine hK.out _ _ (fun _ => HSF.out _ hbc.out) ?_
                clear hK K
                try simp only [Act.put, List.setIfInBounds_toArray, List.set_cons_zero, List.set_cons_succ]
                refine Ord.wpAnyU_one (i := 13) (by kernel_rfl) rfl (fun K hK => ?_)
                refine step_recs rfl (.tmp 107) (.tmp 110) 31 rfl w5.heap.size 9 i0 _ Try.underlying31 hi hz0 hz1 hz2 rfl v7 (0 + S.recs.length) ([] ++ rows S.recs) rfl ?ho _ 1 _ [AR] rfl rfl (fun h => by cases h) ?hs ?hn ?hb ?_
                case ho => exact hoc
                case hs => exact hst
                case hn => omega
                case hb => exact hbc.out.size
                intro v8 w8 hown8 hgrow8 hB8
                have hb8 := Lib.hid (hB8 _ hbc.out)
                obtain ⟨a8, c8, rfl, hs8, hw8, hq8⟩ := own_recs arg hown8 hAR.out
                have HS8 := Lib.hid hs8
                have HW8 := Lib.hid hw8
                clear hs8 hw8 hown8 hgrow8 hB8
                obtain ⟨-, -, ⟨h0, h1, h2, h3⟩, ⟨j0, j1, j2, j3⟩, k0, k1, k2⟩ := HFC.out w8 hb8.out
                refine hK.out _ _ (fun _ => HSF.out _ hb8.out) ?_
                clear hK K
                try simp only [Act.put, List.setIfInBounds_toArray, List.set_cons_zero, List.set_cons_succ]
                refine Ord.wpAnyU_one (i := 14) (by kernel_rfl) rfl (fun K hK => ?_)
                go_simp
                refine hK.out _ _ (fun h => by cases h) ?_
                clear hK K
                try simp only [Act.put, List.setIfInBounds_toArray, List.set_cons_zero, List.set_cons_succ]
                refine Ord.wpAnyU_one (i := 15) (by kernel_rfl) rfl (fun K hK => ?_)
                go_simp
                refine hK.out _ _ (fun h => by cases h) ?_
                clear hK K
                try simp only [Act.put, List.setIfInBounds_toArray, List.set_cons_zero, List.set_cons_succ]
                refine Ord.wpAnyU_done (by kernel_rfl) ?_ _
                obtain ⟨T, dd, k', B', hw, hps⟩ := PS_app HF.out ((Bj.below g m j hbV).trans HBJ.out) (by have := HAP.out; rw [← hAR.out] at this; exact this) hfi.1 RX.out RA.out hb8.out HS8.out HW8.out hq8 rfl
                go_wp2
                go_meet
                case rel => exact ⟨0, z, j, T, _, dd, a8, c8, k', B', rfl, rfl, hw, hps⟩
              · go_simp
                have q2 : Hid (Below w5.heap.size w5 ((W6.alloc (Obj.cells #[] 9)).alloc (Obj.cells #[Value.string AR] 9))) := below_al q1.out _
                have g2 : Hid (((W6.alloc (Obj.cells #[] 9)).alloc (Obj.cells #[Value.string AR] 9)).ownsRow w5.heap.size 9 1 (.slice (some ⟨W6.heap.size, 0, none⟩) 0 0) 0 (strVals [])) := own_empty (heap_alloc2_old W6 _ _) hb6.out.size
                have kc : ((W6.alloc (Obj.cells #[] 9)).alloc (Obj.cells #[Value.string AR] 9)).cell? ⟨W6.heap.size + 1, 0, none⟩ = some (.string AR) := cell_of_row _ _ 0 _ _ _ (heap_alloc2_new W6 _ _)
                have nk : some (W6.heap.size + 1) ≠ Value.ownBlock (.slice (some ⟨W6.heap.size, 0, none⟩) 0 0) := fun e => by have h1 : W6.heap.size + 1 = W6.heap.size := Option.some.inj e; omega
                refine hK.out _ _ (fun _ => HSF.out _ q2.out) ?_
                clear hK K
                try simp only [Act.put, List.setIfInBounds_toArray, List.set_cons_zero, List.set_cons_succ]
                refine Ord.wpAnyU_one (i := 9) (by kernel_rfl) rfl (fun K hK => ?_)
                refine step_recs rfl (.tmp 104) (.tmp 106) 31 rfl w5.heap.size 9 i0 _ Try.underlying31 hi hz0 hz1 hz2 rfl (.slice (some ⟨W6.heap.size, 0, none⟩) 0 0) 0 [] rfl ?ho a S.recs.length cap (rows S.recs) rfl (rows_length _) hnil ?hs ?hn ?hb ?_
                case ho => exact g2.out
                case hs => exact hRC.out.below q2.out
                case hn => omega
                case hb => exact q2.out.size
                intro v7 w7 hown7 hgrow7 hB7
                have hb7 := Lib.hid (hB7 _ q2.out)
                have hO7 := Lib.hid hown7
                have hst := strs_one1 (hgrow7.cell (a := ⟨W6.heap.size + 1, 0, none⟩) kc nk)
                have hbc := hb7
                have hoc := hO7.out
                clear hown7 hgrow7 hB7
                refine hK.out _ _ (fun _ => HSF.out _ hb7.out) ?_
                clear hK K
                try simp only [Act.put, List.setIfInBounds_toArray, List.set_cons_zero, List.set_cons_succ]
                refine Ord.wpAnyU_one (i := 13) (by kernel_rfl) rfl (fun K hK => ?_)
                refine step_recs rfl (.tmp 107) (.tmp 110) 31 rfl w5.heap.size 9 i0 _ Try.underlying31 hi hz0 hz1 hz2 rfl v7 (0 + S.recs.length) ([] ++ rows S.recs) rfl ?ho _ 1 _ [AR] rfl rfl (fun h => by cases h) ?hs ?hn ?hb ?_
                case ho => exact hoc
                case hs => exact hst
                case hn => omega
                case hb => exact hbc.out.size
                intro v8 w8 hown8 hgrow8 hB8
                have hb8 := Lib.hid (hB8 _ hbc.out)
                obtain ⟨a8, c8, rfl, hs8, hw8, hq8⟩ := own_recs arg hown8 hAR.out
                have HS8 := Lib.hid hs8
                have HW8 := Lib.hid hw8
                clear hs8 hw8 hown8 hgrow8 hB8
                obtain ⟨-, -, ⟨h0, h1, h2, h3⟩, ⟨j0, j1, j2, j3⟩, k0, k1, k2⟩ := HFC.out w8 hb8.out
                refine hK.out _ _ (fun _ => HSF.out _ hb8.out) ?_
                clear hK K
                try simp only [Act.put, List.setIfInBounds_toArray, List.set_cons_zero, List.set_cons_succ]
                refine Ord.wpAnyU_one (i := 14) (by kernel_rfl) rfl (fun K hK => ?_)
                go_simp
                refine hK.out _ _ (fun h => by cases h) ?_
                clear hK K
                try simp only [Act.put, List.setIfInBounds_toArray, List.set_cons_zero, List.set_cons_succ]
                refine Ord.wpAnyU_one (i := 15) (by kernel_rfl) rfl (fun K hK => ?_)
                go_simp
                refine hK.out _ _ (fun h => by cases h) ?_
                clear hK K
                try simp only [Act.put, List.setIfInBounds_toArray, List.set_cons_zero, List.set_cons_succ]
                refine Ord.wpAnyU_done (by kernel_rfl) ?_ _
                obtain ⟨T, dd, k', B', hw, hps⟩ := PS_app HF.out ((Bj.below g m j hbV).trans HBJ.out) (by have := HAP.out; rw [← hAR.out] at this; exact this) hfi.1 RX.out RA.out hb8.out HS8.out HW8.out hq8 rfl
                go_wp2
                go_meet
                case rel => exact ⟨0, z, j, T, _, dd, a8, c8, k', B', rfl, rfl, hw, hps⟩
            · go_simp
              have q1 : Hid (Below w5.heap.size w5 (W6.alloc (Obj.cells #[Value.string AR] 9))) := below_al hb6.out _
              refine hK.out _ _ (fun _ => HSF.out _ q1.out) ?_
              clear hK K
              try simp only [Act.put, List.setIfInBounds_toArray, List.set_cons_zero, List.set_cons_succ]
              refine Ord.wpAnyU_one (i := 6) (by kernel_rfl) rfl (fun K hK => ?_)
              go_simp
              have q2 : Hid (Below w5.heap.size w5 ((W6.alloc (Obj.cells #[Value.string AR] 9)).alloc (Obj.cells #[] 9))) := below_al q1.out _
              have g2 : Hid (((W6.alloc (Obj.cells #[Value.string AR] 9)).alloc (Obj.cells #[] 9)).ownsRow w5.heap.size 9 1 (.slice (some ⟨W6.heap.size + 1, 0, none⟩) 0 0) 0 (strVals [])) := own_empty (heap_alloc2_new W6 _ _) (Nat.le_succ_of_le hb6.out.size)
              have kc : ((W6.alloc (Obj.cells #[Value.string AR] 9)).alloc (Obj.cells #[] 9)).cell? ⟨W6.heap.size, 0, none⟩ = some (.string AR) := cell_of_row _ _ 0 _ _ _ (heap_alloc2_old W6 _ _)
              have nk : some W6.heap.size ≠ Value.ownBlock (.slice (some ⟨W6.heap.size + 1, 0, none⟩) 0 0) := fun e => by have h1 : W6.heap.size = W6.heap.size + 1 := Option.some.inj e; omega
              refine hK.out _ _ (fun _ => HSF.out _ q2.out) ?_
              clear hK K
              try simp only [Act.put, List.setIfInBounds_toArray, List.set_cons_zero, List.set_cons_succ]
              refine Ord.wpAnyU_one (i := 9) (by kernel_rfl) rfl (fun K hK => ?_)
              refine step_recs rfl (.tmp 104) (.tmp 106) 31 rfl w5.heap.size 9 i0 _ Try.underlying31 hi hz0 hz1 hz2 rfl (.slice (some ⟨W6.heap.size + 1, 0, none⟩) 0 0) 0 [] rfl ?ho a S.recs.length cap (rows S.recs) rfl (rows_length _) hnil ?hs ?hn ?hb ?_
              case ho => exact g2.out
              case hs => exact hRC.out.below q2.out
              case hn => omega
              case hb => exact q2.out.size
              intro v7 w7 hown7 hgrow7 hB7
              have hb7 := Lib.hid (hB7 _ q2.out)
              have hO7 := Lib.hid hown7
              have hst := strs_one1 (hgrow7.cell (a := ⟨W6.heap.size, 0, none⟩) kc nk)
              have hbc := hb7
              have hoc := hO7.out
              clear hown7 hgrow7 hB7
              refine hK.out _ _ (fun _ => HSF.out _ hb7.out) ?_
              clear hK K
              try simp only [Act.put, List.setIfInBounds_toArray, List.set_cons_zero, List.set_cons_succ]
              refine Ord.wpAnyU_one (i := 13) (by kernel_rfl) rfl (fun K hK => ?_)
              refine step_recs rfl (.tmp 107) (.tmp 110) 31 rfl w5.heap.size 9 i0 _ Try.underlying31 hi hz0 hz1 hz2 rfl v7 (0 + S.recs.length) ([] ++ rows S.recs) rfl ?ho _ 1 _ [AR] rfl rfl (fun h => by cases h) ?hs ?hn ?hb ?_
              case ho => exact hoc
              case hs => exact hst
              case hn => omega
              case hb => exact hbc.out.size
              intro v8 w8 hown8 hgrow8 hB8
              have hb8 := Lib.hid (hB8 _ hbc.out)
              obtain ⟨a8, c8, rfl, hs8, hw8, hq8⟩ := own_recs arg hown8 hAR.out
              have HS8 := Lib.hid hs8
              have HW8 := Lib.hid hw8
              clear hs8 hw8 hown8 hgrow8 hB8
              obtain ⟨-, -, ⟨h0, h1, h2, h3⟩, ⟨j0, j1, j2, j3⟩, k0, k1, k2⟩ := HFC.out w8 hb8.out
              refine hK.out _ _ (fun _ => HSF.out _ hb8.out) ?_
              clear hK K
              try simp only [Act.put, List.setIfInBounds_toArray, List.set_cons_zero, List.set_cons_succ]
              refine Ord.wpAnyU_one (i := 14) (by kernel_rfl) rfl (fun K hK => ?_)
              go_simp
              refine hK.out _ _ (fun h => by cases h) ?_
              clear hK K
              try simp only [Act.put, List.setIfInBounds_toArray, List.set_cons_zero, List.set_cons_succ]
              refine Ord.wpAnyU_one (i := 15) (by kernel_rfl) rfl (fun K hK => ?_)
              go_simp
              refine hK.out _ _ (fun h => by cases h) ?_
              clear hK K
              try simp only [Act.put, List.setIfInBounds_toArray, List.set_cons_zero, List.set_cons_succ]
              refine Ord.wpAnyU_done (by kernel_rfl) ?_ _
              obtain ⟨T, dd, k', B', hw, hps⟩ := PS_app HF.out ((Bj.below g m j hbV).trans HBJ.out) (by have := HAP.out; rw [← hAR.out] at this; exact this) hfi.1 RX.out RA.out hb8.out HS8.out HW8.out hq8 rfl
              go_wp2
              go_meet
              case rel => exact ⟨0, z, j, T, _, dd, a8, c8, k', B', rfl, rfl, hw, hps⟩
          · by_cases h2 : kind = 2
            · subst h2
              go_upto_region 22 with (fail)
              rw [hV.out]
              have m0 : V.cell? ⟨nb, 0, none⟩ = some (.int .i64 (S.gen : Int)) := cell_of_row V _ 0 _ _ _ vN
              have a1 : V.cell? ⟨wr.heap.size, 1, none⟩ = some (.int .i64 nn) := (cell_of_row V _ 1 _ _ _ vA).trans (by rw [← hAC.out]; rfl)
              have a2 : V.cell? ⟨wr.heap.size, 2, none⟩ = some (.string AR) := (cell_of_row V _ 2 _ _ _ vA).trans (by rw [← hAC.out]; rfl)
              have hHeld : V.drew.cell? ⟨nb, 0, none⟩ = some (.int .i64 (S.gen : Int)) ∧ V.drew.cell? ⟨wr.heap.size, 2, none⟩ = some (.string AR) ∧ V.drew.cell? ⟨wr.heap.size, 1, none⟩ = some (.int .i64 nn) := ⟨m0, a2, a1⟩
              have hV1 : Hid (Below V.heap.size V V.drew) := (Below.refl _ _).drew
              have hgw : IntKind.i64.wrap ((S.gen : Int) + 1) = (S.gen : Int) + 1 := by rw [IntKind.wrap_i64]; omega
              refine Ord.wp_region_U (fun W' => W'.cell? ⟨nb, 0, none⟩ = some (.int .i64 (S.gen : Int)) ∧ W'.cell? ⟨wr.heap.size, 2, none⟩ = some (.string AR) ∧ W'.cell? ⟨wr.heap.size, 1, none⟩ = some (.int .i64 nn)) [8, 9] (by kernel_rfl) ?_
              generalize hVd : V.drew = V1 at *
              refine take_at (i := 0) (v := ?_) 115 rfl rfl (by kernel_rfl) (by kernel_rfl) (by kernel_rfl) (by kernel_rfl) (by kernel_rfl) (by kernel_rfl) (by kernel_rfl) (fun _ _ _ h => h) (Or.inl ⟨by kernel_rfl, ?_⟩) hHeld ?_
              rotate_left
              · intro w hSw; (try dsimp only at hSw); (try obtain ⟨f0, f1, f2⟩ := hSw); go_simp; (try with_reducible rfl)
              try simp only [Act.put, List.setIfInBounds_toArray, List.set_cons_zero, List.set_cons_succ]
              refine take_at (i := 1) (v := ?_) 116 rfl rfl (by kernel_rfl) (by kernel_rfl) (by kernel_rfl) (by kernel_rfl) (by kernel_rfl) (by kernel_rfl) (by kernel_rfl) (fun _ _ _ h => h) (Or.inl ⟨by kernel_rfl, ?_⟩) hHeld ?_
              rotate_left
              · intro w hSw; (try dsimp only at hSw); (try obtain ⟨f0, f1, f2⟩ := hSw); go_simp; (try with_reducible rfl)
              try simp only [Act.put, List.setIfInBounds_toArray, List.set_cons_zero, List.set_cons_succ]
              refine take_at (i := 2) (v := ?_) 117 rfl rfl (by kernel_rfl) (by kernel_rfl) (by kernel_rfl) (by kernel_rfl) (by kernel_rfl) (by kernel_rfl) (by kernel_rfl) (fun _ _ _ h => h) (Or.inl ⟨by kernel_rfl, ?_⟩) hHeld ?_
              rotate_left
              · intro w hSw; (try dsimp only at hSw); (try obtain ⟨f0, f1, f2⟩ := hSw); go_simp; (try with_reducible rfl)
              try simp only [Act.put, List.setIfInBounds_toArray, List.set_cons_zero, List.set_cons_succ]
              refine take_at (i := 3) (v := ?_) 118 rfl rfl (by kernel_rfl) (by kernel_rfl) (by kernel_rfl) (by kernel_rfl) (by kernel_rfl) (by kernel_rfl) (by kernel_rfl) (fun _ _ _ h => h) (Or.inl ⟨by kernel_rfl, ?_⟩) hHeld ?_
              rotate_left
              · intro w hSw; (try dsimp only at hSw); (try obtain ⟨f0, f1, f2⟩ := hSw); go_simp; (try with_reducible rfl)
              try simp only [Act.put, List.setIfInBounds_toArray, List.set_cons_zero, List.set_cons_succ]
              refine take_at (i := 4) (v := ?_) 119 rfl rfl (by kernel_rfl) (by kernel_rfl) (by kernel_rfl) (by kernel_rfl) (by kernel_rfl) (by kernel_rfl) (by kernel_rfl) (fun _ _ _ h => h) (Or.inl ⟨by kernel_rfl, ?_⟩) hHeld ?_
              rotate_left
              · intro w hSw; (try dsimp only at hSw); (try obtain ⟨f0, f1, f2⟩ := hSw); go_simp; (try with_reducible rfl)
              try simp only [Act.put, List.setIfInBounds_toArray, List.set_cons_zero, List.set_cons_succ]
              refine take_at (i := 5) (v := ?_) 120 rfl rfl (by kernel_rfl) (by kernel_rfl) (by kernel_rfl) (by kernel_rfl) (by kernel_rfl) (by kernel_rfl) (by kernel_rfl) (fun _ _ _ h => h) (Or.inl ⟨by kernel_rfl, ?_⟩) hHeld ?_
              rotate_left
              · intro w hSw; (try dsimp only at hSw); (try obtain ⟨f0, f1, f2⟩ := hSw); go_simp; (try with_reducible rfl)
              try simp only [Act.put, List.setIfInBounds_toArray, List.set_cons_zero, List.set_cons_succ]
              refine take_at (i := 6) (v := ?_) 121 rfl rfl (by kernel_rfl) (by kernel_rfl) (by kernel_rfl) (by kernel_rfl) (by kernel_rfl) (by kernel_rfl) (by kernel_rfl) (fun _ _ _ h => h) (Or.inl ⟨by kernel_rfl, ?_⟩) hHeld ?_
              rotate_left
              · intro w hSw; (try dsimp only at hSw); (try obtain ⟨f0, f1, f2⟩ := hSw); go_simp; (try with_reducible rfl)
              try simp only [Act.put, List.setIfInBounds_toArray, List.set_cons_zero, List.set_cons_succ]
              refine Ord.wpAnyU_one (i := 7) (by kernel_rfl) rfl (fun K hK => ?_)
              go_simp
              go_wp2_with (go_at_call 11; (with_reducible refine (text_any AR sAR nn _).mono ?_); rintro e w6 ⟨⟨T, rfl, hT⟩, rfl⟩)
              refine hK.out _ _ (fun _ => hHeld) ?_
              clear hK K
              try simp only [Act.put, List.setIfInBounds_toArray, List.set_cons_zero, List.set_cons_succ]
              refine Ord.wpAnyU_one (i := 8) (by kernel_rfl) rfl (fun K hK => ?_)
              go_simp
              refine hK.out _ _ (fun h => by cases h) ?_
              clear hK K
              try simp only [Act.put, List.setIfInBounds_toArray, List.set_cons_zero, List.set_cons_succ]
              have rX1 := (hV1.out.block (wr.heap.size + 1) (by omega)).trans vX
              have hxl1 : wr.heap.size + 1 < V1.heap.size := (Array.getElem?_eq_some_iff.1 rX1).1
              have x0 : V1.cell? ⟨wr.heap.size + 1, 0, none⟩ = some (.int .i64 (S.gen : Int)) := cell_of_row V1 _ 0 _ _ _ rX1
              have x1 : V1.cell? ⟨wr.heap.size + 1, 1, none⟩ = some (.bool S.has) := cell_of_row V1 _ 1 _ _ _ rX1
              have x2 : V1.cell? ⟨wr.heap.size + 1, 2, none⟩ = some (.string ⟨S.base.toArray⟩) := cell_of_row V1 _ 2 _ _ _ rX1
              have x3 : V1.cell? ⟨wr.heap.size + 1, 3, none⟩ = some (.slice a S.recs.length cap) := cell_of_row V1 _ 3 _ _ _ rX1
              have y0 := frozen_of_row V1 _ 0 _ _ rX1
              have y1 := frozen_of_row V1 _ 1 _ _ rX1
              have y2 := frozen_of_row V1 _ 2 _ _ rX1
              have y3 := frozen_of_row V1 _ 3 _ _ rX1
              refine Ord.wpAnyU_one (i := 9) (by kernel_rfl) rfl (fun K hK => ?_)
              go_simp
              refine hK.out _ _ (fun h => by cases h) ?_
              clear hK K
              try simp only [Act.put, List.setIfInBounds_toArray, List.set_cons_zero, List.set_cons_succ]
              refine Ord.wpAnyU_done (by kernel_rfl) ?_ _
              have hTl : T.data.toList.length ≤ 12000 := by rw [sz_list]; exact hT
              have eT : (⟨T.data.toList.toArray⟩ : ByteArray) = T := rfl
              have HPV1 := Lib.hid (hPV.out.below hV1.out)
              have HJV1 := Lib.hid (hJV.out.below hV1.out)
              have hl1 : wr.heap.size < V1.heap.size := by omega
              obtain ⟨V2, hV2⟩ : ∃ V2, V2 = (((V1.setCell ⟨wr.heap.size + 1, 0, none⟩ (.int .i64 ((S.gen : Int) + 1))).setCell ⟨wr.heap.size + 1, 1, none⟩ (.bool true)).setCell ⟨wr.heap.size + 1, 2, none⟩ (.string T)).setCell ⟨wr.heap.size + 1, 3, none⟩ (.slice none 0 0) := ⟨_, rfl⟩
              obtain ⟨s1, s2, s3⟩ := set4_heap V1 (wr.heap.size + 1) (.int .i64 ((S.gen : Int) + 1)) (.bool true) (.string T) (.slice none 0 0) _ _ _ _ _ rX1
              rw [← hV2] at s1 s2 s3
              have gr : V1.grownBy V2 (some (wr.heap.size + 1)) := ⟨by rw [hV2]; rfl, by rw [hV2]; rfl, by rw [hV2]; rfl, by rw [s3]; exact Nat.le_refl _, fun k hk hne => s2 k fun e => hne (by rw [e])⟩
              have HPV2 : Hid (PD V2 g m d.files.length d) := HPV1.out.grown gr (by intro e; cases e; omega) (by intro e; cases e; omega)
              have HJV2 : Hid (JR V2 j g (S.gen : Int) (S.recs.length : Int) false) := ⟨HJV1.out.row.of_block (s2 j (by omega))⟩
              have b2 : V2.cell? ⟨wr.heap.size + 1, 2, none⟩ = some (.string T) := cell_of_row V2 _ 2 _ _ _ s1
              have hl2 : wr.heap.size + 1 < V2.heap.size := by rw [s3]; exact hxl1
              have SN := Lib.hid (snap_any V2 g m j S d k B HF.out.op HF.out.calm (by omega) HPV2.out HJV2.out o1 o2 (by omega) T hT)
              have VX := Lib.hid vX
              have VA := Lib.hid vA
              have HBV := Lib.hid hbV
              have HV2 := Lib.hid hV2
              clear s1 s2 s3 gr x0 x1 x2 x3 y0 y1 y2 y3 rX1 vX vA vN hbV m0 a1 a2 hHeld
              rw [← hV2]
              clear hV2
              go_wp2_with (go_at_call 12; (with_reducible refine SN.out.mono ?_); rintro e w9 ⟨z, rfl, HSR, HBJ⟩)
              go_meet
              case rel =>
                obtain ⟨T2, dd, k2, B2, hw, hps⟩ := PS_snap (kind := 2) (arg := arg) (base := T.data.toList) HF.out HBV.out VX.out VA.out hV1.out V2 HV2.out HBJ.out HSR.out hTl
                exact ⟨0, z, j, T2, _, dd, none, 0, k2, B2, rfl, rfl, hw, hps⟩
            · have d1 : (kind == 1) = false := beq_eq_false_iff_ne.2 h1
              have d2 : (kind == 2) = false := beq_eq_false_iff_ne.2 h2
              have hO := HF.out.op
              obtain ⟨e1, -, -, -⟩ := calm_open hO.rest hO.gr (by omega) (by omega) hO.room HF.out.calm
              have OP := Lib.hid (open_ok V g m k B d ⟨hPV.out, hO.gr⟩ (by omega) (by omega) S hO.rest (by omega) (by omega) (by omega) e1)
              have SS : Hid (∀ W a1 c1 a2 c2, Strs W a1 (rows S.recs) → Strs W a2 (rows S.recs) → Calls Try.prog 13 #[.agg #[.int .i64 (S.gen : Int), .bool S.has, .string ⟨S.base.toArray⟩, .slice a1 S.recs.length c1], .agg #[.int .i64 (S.gen : Int), .bool S.has, .string ⟨S.base.toArray⟩, .slice a2 S.recs.length c2]] W fun e w' => e = .returned (.bool true) ∧ Below W.heap.size W w') := fun W a1 c1 a2 c2 h1 h2 => by
                have := same33_any S S a1 a2 c1 c2 W (by omega) (by omega) h1 h2
                rw [decide_eq_true rfl] at this
                exact this
              have m0 : V.cell? ⟨nb, 0, none⟩ = some (.int .i64 (S.gen : Int)) := cell_of_row V _ 0 _ _ _ vN
              have m1 : V.cell? ⟨nb, 1, none⟩ = some (.bool S.has) := cell_of_row V _ 1 _ _ _ vN
              have m2 : V.cell? ⟨nb, 2, none⟩ = some (.string ⟨S.base.toArray⟩) := cell_of_row V _ 2 _ _ _ vN
              have m3 : V.cell? ⟨nb, 3, none⟩ = some (.slice a S.recs.length cap) := cell_of_row V _ 3 _ _ _ vN
              have hnV : nb < V.heap.size := by omega
              have HK : Hid (∀ U, Bx g m V U → (U.cell? ⟨nb, 0, none⟩ = some (.int .i64 (S.gen : Int)) ∧ U.cell? ⟨nb, 1, none⟩ = some (.bool S.has) ∧ U.cell? ⟨nb, 2, none⟩ = some (.string ⟨S.base.toArray⟩) ∧ U.cell? ⟨nb, 3, none⟩ = some (.slice a S.recs.length cap)) ∧ Strs U a (rows S.recs)) := fun U hU => by
                refine ⟨⟨(bx_cell hU hnV o3 o4).trans m0, (bx_cell hU hnV o3 o4).trans m1, (bx_cell hU hnV o3 o4).trans m2, (bx_cell hU hnV o3 o4).trans m3⟩, vRC.out U fun x hn hx => ?_⟩
                obtain ⟨p1, p2, p3, p4, p5⟩ := HF.out.own hn x hx
                exact ⟨hU.block x.block (by omega) p2 p3, by have := hU.size; omega⟩
              unfold savedVal at OP
              have VX := Lib.hid vX
              have VA := Lib.hid vA
              have HBV := Lib.hid hbV
              clear hO e1 m0 m1 m2 m3 vX vA vN hbV
              go_wp2_with (first
                | (go_at_call 9; rw [hV.out]; (with_reducible refine OP.out.mono ?_); rintro e w8 ⟨j8, a8, c8, rfl, HJ8, hj8, HR8, hn8, HP8, HX8⟩; obtain ⟨⟨q0, q1, q2, q3⟩, hstq⟩ := HK.out w8 HX8.out; have HSQ := Lib.hid hstq; have hnl8 : nb < w8.heap.size := Nat.lt_of_lt_of_le hnV HX8.out.size; clear hstq)
                | (go_at_call 13; (with_reducible refine (SS.out _ a8 _ a _ ?hs1 ?hs2).mono ?_); (case hs1 => exact HR8.out.lie.below (below_al (Below.refl _ _) _)); (case hs2 => exact HSQ.out.below (below_al (Below.refl _ _) _)); rintro e w9 ⟨rfl, hb9⟩; have HB9 := Lib.hid (below2 (below_al (Below.refl w8.heap.size w8) _) hb9); clear hb9))
              go_meet
              case rel =>
                have hps := PS_open (kind := kind) (arg := arg) HF.out HBV.out VX.out VA.out (HX8.out.trans (Bx.below HB9.out)) hj8 (HP8.out.below HB9.out) (HJ8.out.below HB9.out) (by omega)
                exact ⟨0, 0, j8, S, S, _, a, cap, _, _, rfl, rfl, hps.1, hps.2⟩
        case rest =>
          obtain ⟨-, z, jj, T, NX, d2, a2, cap2, k2, B2, rfl, rfl, hwent, HPS⟩ := hcut
          obtain ⟨hnl, hxl, mN, mF, mX, mA⟩ := HPS.out.cells
          have hacl : wr.heap.size < wc.heap.size := by omega
          have m0 : wc.cell? ⟨nb, 0, none⟩ = some (.int .i64 (S.gen : Int)) := mN 0
          have m1 : wc.cell? ⟨nb, 1, none⟩ = some (.bool S.has) := mN 1
          have m2 : wc.cell? ⟨nb, 2, none⟩ = some (.string ⟨S.base.toArray⟩) := mN 2
          have m3 : wc.cell? ⟨nb, 3, none⟩ = some (.slice a S.recs.length cap) := mN 3
          have f0 := mF 0
          have f1 := mF 1
          have f2 := mF 2
          have f3 := mF 3
          have x0 : wc.cell? ⟨wr.heap.size + 1, 0, none⟩ = some (.int .i64 (NX.gen : Int)) := mX 0
          have x1 : wc.cell? ⟨wr.heap.size + 1, 1, none⟩ = some (.bool NX.has) := mX 1
          have x2 : wc.cell? ⟨wr.heap.size + 1, 2, none⟩ = some (.string ⟨NX.base.toArray⟩) := mX 2
          have x3 : wc.cell? ⟨wr.heap.size + 1, 3, none⟩ = some (.slice a2 NX.recs.length cap2) := mX 3
          have y0 : wc.cell? ⟨wr.heap.size, 0, none⟩ = some (.int .i64 kind) := by rw [mA 0, ← hAC.out]; rfl
          have y2 : wc.cell? ⟨wr.heap.size, 2, none⟩ = some (.string AR) := by rw [mA 2, ← hAC.out]; rfl
          clear mN mF mX mA n0 n1 n2 n3 n4 c0 c1 c2 c3 c4 c5 c6 c7 c8 c9 c10 HF
          rcases hwent with ⟨rfl, rfl⟩ | ⟨rfl, rfl⟩ | ⟨rfl, rfl, rfl, rfl⟩
          · go_wp2
            go_roundw
            case rel => exact ⟨i + 1, jj, T, d2, a2, cap2, k2, B2, by omega, by go_num, rfl, HPS.out.next _ rfl⟩
            case measure => simp [intOf]; omega
          · go_wp2
            go_roundw
            case rel => exact ⟨i + 1, jj, T, d2, a, cap, k2, B2, by omega, by go_num, rfl, HPS.out.stay⟩
            case measure => simp [intOf]; omega
          · have sz : AR.size = 0 := by rw [← hAR.out]; rfl
            go_wp2
            go_roundw
            case rel => exact ⟨i + 1, jj, T, d2, a, cap, k2, B2, by omega, by go_num, rfl, HPS.out.stay⟩
            case measure => simp [intOf]; omega
      · have di : decide ((i : Int) < (L : Int)) = false := decide_eq_false (by omega)
        have hi1 : ¬ (i : Int) < (L : Int) := by omega
        obtain ⟨n0, n1, n2, n3, n4⟩ := HF.out.cells
        have hfw := HF.out.few
        have hk' := HF.out.k'
        have hB' := HF.out.B'
        have hO := HF.out.op
        obtain ⟨e1, e2, e3, e4⟩ := calm_open hO.rest hO.gr (by omega) (by omega) hO.room HF.out.calm
        have OP := Lib.hid (open_ok wr g m k B d ⟨HF.out.pd, hO.gr⟩ (by omega) (by omega) S hO.rest (by omega) (by omega) (by omega) e1)
        have SS : Hid (∀ W a1 c1 a2 c2, Strs W a1 (rows S.recs) → Strs W a2 (rows S.recs) → Calls Try.prog 13 #[.agg #[.int .i64 (S.gen : Int), .bool S.has, .string ⟨S.base.toArray⟩, .slice a1 S.recs.length c1], .agg #[.int .i64 (S.gen : Int), .bool S.has, .string ⟨S.base.toArray⟩, .slice a2 S.recs.length c2]] W fun e w' => e = .returned (.bool true) ∧ Below W.heap.size W w') := fun W a1 c1 a2 c2 h1 h2 => by
          have := same33_any S S a1 a2 c1 c2 W (by omega) (by omega) h1 h2
          rw [decide_eq_true rfl] at this
          exact this
        obtain ⟨p1, p2⟩ := HF.out.pd.lt
        have hne := HF.out.ne
        have HK : Hid (∀ V, Bx g m wr V → (V.cell? ⟨nb, 0, none⟩ = some (.int .i64 (S.gen : Int)) ∧ V.cell? ⟨nb, 1, none⟩ = some (.bool S.has) ∧ V.cell? ⟨nb, 2, none⟩ = some (.string ⟨S.base.toArray⟩) ∧ V.cell? ⟨nb, 3, none⟩ = some (.slice a S.recs.length cap)) ∧ Strs V a (rows S.recs)) := fun V hV => by
          refine ⟨⟨(bx_cell hV n4 hne.2.2.1 hne.2.2.2.1).trans n0, (bx_cell hV n4 hne.2.2.1 hne.2.2.2.1).trans n1, (bx_cell hV n4 hne.2.2.1 hne.2.2.2.1).trans n2, (bx_cell hV n4 hne.2.2.1 hne.2.2.2.1).trans n3⟩, ?_⟩
          by_cases hn : S.recs = []
          · rw [hn]; exact fun i hi => absurd hi (Nat.not_lt_zero i)
          · exact strs_keep HF.out.rcs fun x hx => by
              obtain ⟨p1, p2, p3, p4, p5⟩ := HF.out.own hn x hx
              exact ⟨hV.block x.block p1 p2 p3, Nat.lt_of_lt_of_le p1 hV.size⟩
        unfold savedVal at OP
        have hbel := Lib.hid HF.out.bel
        clear e1 e2 e3 e4 HF hO
        go_wp2_with (first
          | (go_at_call 9; (with_reducible refine OP.out.mono ?_); rintro e w8 ⟨j8, a8, c8, rfl, HJ8, hj8, HR8, hn8, HP8, HX8⟩; obtain ⟨⟨q0, q1, q2, q3⟩, hstq⟩ := HK.out w8 HX8.out; have HSQ := Lib.hid hstq; have hnl8 : nb < w8.heap.size := Nat.lt_of_lt_of_le n4 HX8.out.size; have HB8 := Lib.hid (bx_below hbel.out HX8.out hg' hm'); clear hstq)
          | (go_at_call 13; (with_reducible refine (SS.out _ a8 _ a _ ?hs1 ?hs2).mono ?_); (case hs1 => exact HR8.out.lie.below (below_al (Below.refl _ _) _)); (case hs2 => exact HSQ.out.below (below_al (Below.refl _ _) _)); rintro e w9 ⟨rfl, hb9⟩; have HB9 := Lib.hid (below2 (below_al HB8.out _) hb9); clear hb9)
          | (go_at_call 8; (with_reducible refine (AW.out _).mono ?_); rintro e wa ⟨rfl, hba⟩; have HBa := Lib.hid (below2 HB9.out hba); clear hba))
        go_ret
        exact ⟨rfl, HBa.out⟩
end Jrn
end Go.Proofs.Yteaikleofboknaa
end
