/- Texts put together: JrR, JrX. -/
import Derived.Test.YteaikleofboknaaM14
import Derived.Deep.Cut
import Derived.Deep.CutBlock
import Derived.Deep.DeepCutAuto
import Derived.StillTailTactics
import Derived.Deep.RegionWith
set_option linter.all false
section
set_option maxRecDepth 100000
namespace Go.Proofs.Yteaikleofboknaa
open Go.RowKit Go.Great Go.Maps
namespace Jrn
open Frm (fits num put scan strs rows allS allE oks ok cats)
open In (strVals Strs)
open Dsk (below2 below_al below_dN DkIn PD Bx Dok FileIn newD namesV crashV fuseV)
set_option maxHeartbeats 8000000 in
theorem again_any (W0 w : World) (g m k B : Nat) (d : DkIn) (S T : SavedIn) (a a2 : Option Addr) (cap cap2 : Nat) (x : ActK) (hp : PD w g m d.files.length d) (hG : Gr d k B) (hk : k ≤ 90000) (hB : B ≤ 900000) (hr : d.room = 1048576) (hc : Cr d (Two S T)) (hx : KIs W0 x) (hw : Below W0.heap.size W0 w) (hg0 : W0.heap.size ≤ g) (hm0 : W0.heap.size ≤ m) (hs : S.gen ≤ 1000 ∧ S.recs.length ≤ 1000 ∧ S.base.length ≤ 12000) (ht : T.gen ≤ 1000 ∧ T.recs.length ≤ 1000 ∧ T.base.length ≤ 12000) (hsa : ∀ W, Bx g m w W → Strs W a (rows S.recs)) (hta : ∀ W, Bx g m w W → Strs W a2 (rows T.recs)) :
    Calls Try.prog 17 #[.pointer (some ⟨g, 0, none⟩), .agg x.row, savedVal S a cap, savedVal T a2 cap2] w fun e w' => ∃ R d' a' cap' j, Two S T R ∧ e = .returned (.tuple #[.pointer (some ⟨j, 0, none⟩), savedVal R a' cap', .bool true]) ∧ Hid (JR w' j g (R.gen : Int) (R.recs.length : Int) false) ∧ w.heap.size ≤ j ∧ Hid (Recs w' w.heap.size a' R.recs) ∧ (a' = none → cap' = 0) ∧ Open' d' R (k + 12) (B + 68) ∧ d'.room = 1048576 ∧ Hid (PD w' g m d'.files.length d') ∧ Hid (Bx g m w w') := by
  obtain ⟨hgl, hml⟩ := hp.lt
  have hgs : ∀ R, Two S T R → R.gen ≤ 1000 ∧ R.recs.length ≤ 1000 ∧ R.base.length ≤ 12000 := fun R h => by rcases h with rfl | rfl <;> assumption
  have HKI := Lib.hid hx
  have HW := Lib.hid hw
  have HSA := Lib.hid hsa
  have HTA := Lib.hid hta
  obtain ⟨kind, nn, arg, half, keep, ka, kc, D⟩ := x
  obtain ⟨⟨dk1, dn, dname, darg, dh, dkeep⟩, dka, dkc⟩ := D
  obtain ⟨AR, hAR⟩ : ∃ A : ByteArray, Hid (ByteArray.mk arg.toArray = A) := ⟨_, rfl⟩
  have ea : (ActK.row ⟨kind, nn, arg, half, keep, ka, kc, ⟨⟨dk1, dn, dname, darg, dh, dkeep⟩, dka, dkc⟩⟩) = #[.int .i64 kind, .int .i64 nn, .string AR, .bool half, .slice ka keep.length kc, .int .i64 dk1, .int .i64 dn, .string ⟨dname.toArray⟩, .string ⟨darg.toArray⟩, .bool dh, .slice dka dkeep.length dkc] := by rw [← hAR.out]; rfl
  rw [ea]
  have CR : Hid (∀ W i d, i ≤ 3 → PD W g m d.files.length d → Gr d (k + 3 * i) (B + 17 * i) → Bx g m w W → Calls Try.prog 44 #[.pointer (some ⟨g, 0, none⟩), .slice ka keep.length kc] W fun e w' => e = .returned (.int .i64 0) ∧ Hid (PD w' g m (crashV d keep).files.length (crashV d keep)) ∧ Hid (Bx g m W w')) := fun W i d hi hp hG hb =>
    (Dsk.crash_any W0 W g m _ d hp hG.ok (by have := hG.len; omega) (fun f hf => Nat.le_trans (hG.lens.1 f hf) (by decide)) _ keep HKI.out.keep (Bx.below2 HW.out hb (Nat.le_refl _) hg0 hm0) hg0 hm0).mono fun e w' ⟨h1, h2, h3⟩ => ⟨h1, h2.out.tight, h3⟩
  have FU : Hid (∀ W d z b, PD W g m d.files.length d → Calls Try.prog 16 #[.pointer (some ⟨g, 0, none⟩), .int .i64 z, .bool b] W fun e w' => e = .returned (.tuple #[]) ∧ Hid (PD w' g m (fuseV d z b).files.length (fuseV d z b)) ∧ Hid (Bx g m W w')) := fun W d z b hp => Dsk.fuse_any W g m _ d hp z b
  have OP : Hid (∀ W d R i, i ≤ 3 → PD W g m d.files.length d → Gr d (k + 3 * i) (B + 17 * i) → Two S T R → Rest d R → Calls Try.prog 9 #[.pointer (some ⟨g, 0, none⟩)] W fun e w' => OpenRes w' W.heap.size g R (openV d R.gen).1 e ∧ Hid (PD w' g m (openV d R.gen).2.files.length (openV d R.gen).2) ∧ Hid (Bx g m W w')) := fun W d R i hi hp hG h hR => open_pg W g m _ _ d ⟨hp, hG⟩ (by omega) (by omega) R hR (by have := hgs R h; omega) (by have := hgs R h; omega) (by have := hgs R h; omega)
  have SA : Hid (∀ W R a' cap', Bx g m w W → Two S T R → Strs W a' (rows R.recs) → Calls Try.prog 13 #[savedVal R a' cap', savedVal S a cap] W fun e w' => e = .returned (.bool (decide (R = S))) ∧ Below W.heap.size W w') := fun W R a' cap' hb h hs' => same33_any R S a' a cap' cap W (by have := hgs R h; omega) (by omega) hs' (HSA.out W hb)
  have TA : Hid (∀ W R a' cap', Bx g m w W → Two S T R → Strs W a' (rows R.recs) → Calls Try.prog 13 #[savedVal R a' cap', savedVal T a2 cap2] W fun e w' => e = .returned (.bool (decide (R = T))) ∧ Below W.heap.size W w') := fun W R a' cap' hb h hs' => same33_any R T a' a2 cap' cap2 W (by have := hgs R h; omega) (by omega) hs' (HTA.out W hb)
  have HPW := Lib.hid hp
  have HCR := Lib.hid hc
  have HGR := Lib.hid hG
  unfold savedVal at SA TA ⊢
  clear hp hc hG hsa hta hx
  obtain ⟨AC, hAC⟩ : ∃ AC : Array Value, Hid (#[.int .i64 kind, .int .i64 nn, .string AR, .bool half, .slice ka keep.length kc, .int .i64 dk1, .int .i64 dn, .string ⟨dname.toArray⟩, .string ⟨darg.toArray⟩, .bool dh, .slice dka dkeep.length dkc] = AC) := ⟨_, rfl⟩
  go_enter Try.func17, Try.ntmps17
  go_wp2
  rw [hAC.out]
  have HA0 : Hid (AS w (((((w.alloc (.cells AC 40)).alloc (.cells (savedRow S a cap) 33)).alloc (.cells (savedRow T a2 cap2) 33)).alloc (.cells #[.int .i64 0, .bool false, .string ⟨#[]⟩, .slice none 0 0] 33))) g m AC (savedRow S a cap) (savedRow T a2 cap2) #[.int .i64 0, .bool false, .string ⟨#[]⟩, .slice none 0 0] d (Two S T) (k + 3 * 0) (B + 17 * 0)) := AS.start w g m AC (savedRow S a cap) (savedRow T a2 cap2) _ d _ k B HCR.out HGR.out hr HPW.out
  go_loopw [11] (fun vk wr => ∃ (i : Nat) (d : DkIn), i ≤ 3 ∧ vk = .int .i64 (i : Int) ∧ Hid (AS w wr g m AC (savedRow S a cap) (savedRow T a2 cap2) #[.int .i64 0, .bool false, .string ⟨#[]⟩, .slice none 0 0] d (Two S T) (k + 3 * i) (B + 17 * i))) (fun vk _ => 4 - (intOf vk).toNat)
  case atStart => exact ⟨0, d, Nat.zero_le _, rfl, HA0.out⟩
  case round =>
    clear HA0 HCR HGR HPW
    obtain ⟨i, d, hi, rfl, HA⟩ := hrel
    obtain ⟨hsz, c0, c1, c2, c3, c4⟩ := HA.out.cells
    have c04 : wr.cell? ⟨w.heap.size, 4, none⟩ = some (.slice ka keep.length kc) := (c0 4).trans (by rw [← hAC.out]; rfl)
    have c01 : wr.cell? ⟨w.heap.size, 1, none⟩ = some (.int .i64 nn) := (c0 1).trans (by rw [← hAC.out]; rfl)
    have c03 : wr.cell? ⟨w.heap.size, 3, none⟩ = some (.bool half) := (c0 3).trans (by rw [← hAC.out]; rfl)
    clear c0 c1 c2 c3 c4
    obtain ⟨R, hR2, hRR⟩ := HA.out.cr.crash HA.out.gr.ok.fok keep
    by_cases h3 : i < 3
    · have d3 : decide ((i : Int) < 3) = true := decide_eq_true (by omega)
      have i3 : (i : Int) < 3 := by omega
      have d8 : decide ((i : Int) < 8) = true := decide_eq_true (by omega)
      have i8 : (i : Int) < 8 := by omega
      have dn0 : decide ((i : Int) < 0) = false := decide_eq_false (by omega)
      have n0 : ¬ (i : Int) < 0 := by omega
      go_upto_region 7 with (go_at_call 44; (with_reducible refine (CR.out _ i d hi HA.out.pd HA.out.gr HA.out.bx).mono ?_); rintro e w1 ⟨rfl, HP1, HX1⟩; have HA1 := Lib.hid (HA.out.step HX1.out HP1.out hRR.cr (gr_crash HA.out.gr keep) HA.out.room))
      have HD1 := Lib.hid HA1.out.drew
      have ZF : Hid (∀ z b, Rest (fuseV (crashV d keep) z b) R) := fun z b => hRR.fuse z b
      go_region_held3 (fun V => V.cell? ⟨w.heap.size, 1, none⟩ = some (.int .i64 nn) ∧ V.cell? ⟨w.heap.size, 3, none⟩ = some (.bool half)) (first | exact HA2.out.act hAC | exact HD1.out.act hAC)
        ((go_at_call 16; (with_reducible refine (FU.out _ _ _ _ HD1.out.pd).mono ?_); rintro e w2 ⟨rfl, HP2, HX2⟩; have HA2 := Lib.hid (HD1.out.step HX2.out HP2.out (ZF.out _ _).cr (gr_fuse HD1.out.gr _ _ (and3_le _)) HA.out.room)))
      have hR3 := ZF.out
      obtain ⟨d2, hd2⟩ : ∃ d2, fuseV (crashV d keep) (bits .and .i64 (nn / 2 ^ i) 3) half = d2 := ⟨_, rfl⟩
      have hR2' : Rest d2 R := by rw [← hd2]; exact ZF.out _ _
      rw [hd2] at HP2 HA2
      clear hd2 hR3 ZF HP1 HP2 HD1 HA1 HX1 HX2
      obtain ⟨G2, r2, O2⟩ := open_again hR2 hR2' HA2.out.gr (by omega) (by omega) HA2.out.room (by have := hgs R hR2; omega)
      have OP2 : Hid (Calls Try.prog 9 #[.pointer (some ⟨g, 0, none⟩)] w2 fun e w' => OpenRes w' w2.heap.size g R (openV d2 R.gen).1 e ∧ Hid (PD w' g m (openV d2 R.gen).2.files.length (openV d2 R.gen).2) ∧ Hid (Bx g m w2 w')) := OP.out w2 d2 R i hi HA2.out.pd HA2.out.gr hR2 hR2'
      generalize openV d2 R.gen = RO at *
      obtain ⟨z, d3⟩ := RO
      dsimp only at *
      rcases O2 with ⟨rfl, ho⟩ | ⟨rfl, -, hcr⟩
      · go_upto_region 10 with (go_at_call 9; (with_reducible refine OP2.out.mono ?_); rintro e w3 ⟨HO, HP3, HX3⟩; obtain ⟨j, a', cap', rfl, HJ3, hj3, HR3, hnil⟩ := HO.1 rfl; have HA3 := Lib.hid (HA2.out.step HX3.out HP3.out (ho.live.cr.mono fun X e => (by rw [e]; exact hR2 : Two S T X)) ho.gr r2); unfold savedVal)
        obtain ⟨V, hV⟩ : ∃ V, V = w3.alloc (.cells #[.int .i64 (R.gen : Int), .bool R.has, .string ⟨R.base.toArray⟩, .slice a' R.recs.length cap'] 33) := ⟨_, rfl⟩
        obtain ⟨hA4, hx4, hb4⟩ := HA3.out.got #[.int .i64 (R.gen : Int), .bool R.has, .string ⟨R.base.toArray⟩, .slice a' R.recs.length cap'] hV
        rw [← hV]
        clear hV
        have HR4 := Lib.hid (HR3.lie.below hb4)
        have FL : Hid (∀ V', Below V.heap.size V V' → V'.cell? ⟨w3.heap.size, 0, none⟩ = some (.int .i64 (R.gen : Int)) ∧ V'.cell? ⟨w3.heap.size, 1, none⟩ = some (.bool R.has) ∧ V'.cell? ⟨w3.heap.size, 2, none⟩ = some (.string ⟨R.base.toArray⟩) ∧ V'.cell? ⟨w3.heap.size, 3, none⟩ = some (.slice a' R.recs.length cap') ∧ V'.cell? ⟨w.heap.size + 1, 0, none⟩ = some (.int .i64 (S.gen : Int)) ∧ V'.cell? ⟨w.heap.size + 1, 1, none⟩ = some (.bool S.has) ∧ V'.cell? ⟨w.heap.size + 1, 2, none⟩ = some (.string ⟨S.base.toArray⟩) ∧ V'.cell? ⟨w.heap.size + 1, 3, none⟩ = some (.slice a S.recs.length cap) ∧ V'.cell? ⟨w.heap.size + 1 + 1, 0, none⟩ = some (.int .i64 (T.gen : Int)) ∧ V'.cell? ⟨w.heap.size + 1 + 1, 1, none⟩ = some (.bool T.has) ∧ V'.cell? ⟨w.heap.size + 1 + 1, 2, none⟩ = some (.string ⟨T.base.toArray⟩) ∧ V'.cell? ⟨w.heap.size + 1 + 1, 3, none⟩ = some (.slice a2 T.recs.length cap2)) := fun V' hb => (hA4.below hb).flat ((hb.block w3.heap.size (Array.getElem?_eq_some_iff.1 hx4).1).trans hx4)
        have HBd : Hid (Below V.heap.size V V.drew) := (Below.refl _ _).drew
        have HA4 := Lib.hid hA4
        have HX4 := Lib.hid hx4
        clear hA4 hx4
        by_cases hRS : R = S
        · have HE1 := Lib.hid (decide_eq_true hRS)
          clear hRS
          refine wp_region_held_drew (S := (fun V => V.cell? ⟨w3.heap.size, 0, none⟩ = some (.int .i64 (R.gen : Int)) ∧ V.cell? ⟨w3.heap.size, 1, none⟩ = some (.bool R.has) ∧ V.cell? ⟨w3.heap.size, 2, none⟩ = some (.string ⟨R.base.toArray⟩) ∧ V.cell? ⟨w3.heap.size, 3, none⟩ = some (.slice a' R.recs.length cap') ∧ V.cell? ⟨w.heap.size + 1, 0, none⟩ = some (.int .i64 (S.gen : Int)) ∧ V.cell? ⟨w.heap.size + 1, 1, none⟩ = some (.bool S.has) ∧ V.cell? ⟨w.heap.size + 1, 2, none⟩ = some (.string ⟨S.base.toArray⟩) ∧ V.cell? ⟨w.heap.size + 1, 3, none⟩ = some (.slice a S.recs.length cap) ∧ V.cell? ⟨w.heap.size + 1 + 1, 0, none⟩ = some (.int .i64 (T.gen : Int)) ∧ V.cell? ⟨w.heap.size + 1 + 1, 1, none⟩ = some (.bool T.has) ∧ V.cell? ⟨w.heap.size + 1 + 1, 2, none⟩ = some (.string ⟨T.base.toArray⟩) ∧ V.cell? ⟨w.heap.size + 1 + 1, 3, none⟩ = some (.slice a2 T.recs.length cap2))) (by kernel_rfl) (FL.out _ HBd.out) (fun hHeld => ?_)
          refine takeH (i := 0) (v := ?_) 44 rfl rfl (by kernel_rfl) (by kernel_rfl) (by kernel_rfl) (fun _ _ _ h => h) (Or.inl ⟨by rfl, ?_⟩) hHeld ?_
          rotate_left
          · intro w hSw; (try dsimp only at hSw); go_simp; (try with_reducible rfl)
          try simp only [Act.put, List.setIfInBounds_toArray, List.set_cons_zero, List.set_cons_succ]
          refine takeH (i := 1) (v := ?_) 45 rfl rfl (by kernel_rfl) (by kernel_rfl) (by kernel_rfl) (fun _ _ _ h => h) (Or.inl ⟨by rfl, ?_⟩) hHeld ?_
          rotate_left
          · intro w hSw; (try dsimp only at hSw); go_simp; (try with_reducible rfl)
          try simp only [Act.put, List.setIfInBounds_toArray, List.set_cons_zero, List.set_cons_succ]
          refine takeH (i := 2) (v := ?_) 46 rfl rfl (by kernel_rfl) (by kernel_rfl) (by kernel_rfl) (fun _ _ _ h => h) (Or.inl ⟨by rfl, ?_⟩) hHeld ?_
          rotate_left
          · intro w hSw; (try dsimp only at hSw); go_simp; (try with_reducible rfl)
          try simp only [Act.put, List.setIfInBounds_toArray, List.set_cons_zero, List.set_cons_succ]
          refine takeH (i := 3) (v := (.bool true)) 47 rfl rfl (by kernel_rfl) (by kernel_rfl) (by kernel_rfl) (fun _ _ _ h => h) (Or.inl ⟨by rfl, ?_⟩) hHeld ?_
          · intro w hSw; (try dsimp only at hSw); go_simp; (try with_reducible rfl); (try omega)
          try simp only [Act.put, List.setIfInBounds_toArray, List.set_cons_zero, List.set_cons_succ]
          refine takeH (i := 4) (v := (.bool true)) 48 rfl rfl (by kernel_rfl) (by kernel_rfl) (by kernel_rfl) (fun _ _ _ h => h) (Or.inl ⟨by rfl, ?_⟩) hHeld ?_
          · intro w hSw; (try dsimp only at hSw); go_simp; (try with_reducible rfl); (try omega)
          try simp only [Act.put, List.setIfInBounds_toArray, List.set_cons_zero, List.set_cons_succ]
          refine takeH (i := 5) (v := ?_) 49 rfl rfl (by kernel_rfl) (by kernel_rfl) (by kernel_rfl) (fun _ _ _ h => h) (Or.inl ⟨by rfl, ?_⟩) hHeld ?_
          rotate_left
          · intro w hSw; (try dsimp only at hSw); go_simp; (try with_reducible rfl)
          try simp only [Act.put, List.setIfInBounds_toArray, List.set_cons_zero, List.set_cons_succ]
          refine takeH (i := 6) (v := ?_) 50 rfl rfl (by kernel_rfl) (by kernel_rfl) (by kernel_rfl) (fun _ _ _ h => h) (Or.inl ⟨by rfl, ?_⟩) hHeld ?_
          rotate_left
          · intro w hSw; (try dsimp only at hSw); go_simp; (try with_reducible rfl)
          try simp only [Act.put, List.setIfInBounds_toArray, List.set_cons_zero, List.set_cons_succ]
          refine wpAnyH_ready (rs := [7]) (by kernel_rfl) (by simp) ?_
          refine AllReadyH.cons rfl (fun K hK => ?_) AllReadyH.nil
          go_simp
          go_wp2_with (go_at_call 13; ((with_reducible refine (SA.out _ R a' cap' (HA4.out.bx.trans (Bx.below HBd.out)) hR2 (HR4.out.below HBd.out)).mono ?_); rintro e w5 ⟨he, hb5⟩; rw [HE1.out] at he; subst he; have HB5 := Lib.hid (below2 HBd.out hb5)))
          refine hK.out _ _ (FL.out _ HB5.out) (fun hHeld => ?_)
          clear hK K
          try simp only [Act.put, List.setIfInBounds_toArray, List.set_cons_zero, List.set_cons_succ]
          refine takeH (i := 8) (v := (.bool true)) 52 rfl rfl (by kernel_rfl) (by kernel_rfl) (by kernel_rfl) (fun _ _ _ h => h) (Or.inl ⟨by rfl, ?_⟩) hHeld ?_
          · intro w hSw; (try dsimp only at hSw); go_simp; (try with_reducible rfl); (try omega)
          try simp only [Act.put, List.setIfInBounds_toArray, List.set_cons_zero, List.set_cons_succ]
          refine takeH (i := 9) (v := undef) 53 rfl rfl (by kernel_rfl) (by kernel_rfl) (by kernel_rfl) (fun _ _ _ h => h) (Or.inr ⟨by kernel_rfl, rfl⟩) hHeld ?_
          try simp only [Act.put, List.setIfInBounds_toArray, List.set_cons_zero, List.set_cons_succ]
          refine takeH (i := 10) (v := undef) 54 rfl rfl (by kernel_rfl) (by kernel_rfl) (by kernel_rfl) (fun _ _ _ h => h) (Or.inr ⟨by kernel_rfl, rfl⟩) hHeld ?_
          try simp only [Act.put, List.setIfInBounds_toArray, List.set_cons_zero, List.set_cons_succ]
          refine takeH (i := 11) (v := undef) 55 rfl rfl (by kernel_rfl) (by kernel_rfl) (by kernel_rfl) (fun _ _ _ h => h) (Or.inr ⟨by kernel_rfl, rfl⟩) hHeld ?_
          try simp only [Act.put, List.setIfInBounds_toArray, List.set_cons_zero, List.set_cons_succ]
          refine takeH (i := 12) (v := ?_) 56 rfl rfl (by kernel_rfl) (by kernel_rfl) (by kernel_rfl) (fun _ _ _ h => h) (Or.inl ⟨by rfl, ?_⟩) hHeld ?_
          rotate_left
          · intro w hSw; (try dsimp only at hSw); go_simp; (try with_reducible rfl)
          try simp only [Act.put, List.setIfInBounds_toArray, List.set_cons_zero, List.set_cons_succ]
          refine takeH (i := 13) (v := ?_) 57 rfl rfl (by kernel_rfl) (by kernel_rfl) (by kernel_rfl) (fun _ _ _ h => h) (Or.inl ⟨by rfl, ?_⟩) hHeld ?_
          rotate_left
          · intro w hSw; (try dsimp only at hSw); go_simp; (try with_reducible rfl)
          try simp only [Act.put, List.setIfInBounds_toArray, List.set_cons_zero, List.set_cons_succ]
          refine takeH (i := 14) (v := ?_) 8 rfl rfl (by kernel_rfl) (by kernel_rfl) (by kernel_rfl) (fun _ _ _ h => h) (Or.inl ⟨by rfl, ?_⟩) hHeld ?_
          rotate_left
          · intro w hSw; (try dsimp only at hSw); go_simp; (try with_reducible rfl)
          try simp only [Act.put, List.setIfInBounds_toArray, List.set_cons_zero, List.set_cons_succ]
          have HAL := Lib.hid (HA4.out.below HB5.out)
          have hVl := (Array.getElem?_eq_some_iff.1 HX4.out).1
          have hxL := (HB5.out.block w3.heap.size hVl).trans HX4.out
          obtain ⟨o0, o1, o2, o3, f0, f1, f2, f3⟩ := HAL.out.out3
          have hz3 := HA3.out.cells.1
          refine wpAnyH_ready (rs := [15]) (by kernel_rfl) (by simp) ?_
          refine AllReadyH.cons rfl (fun K hK => ?_) AllReadyH.nil
          go_simp
          go_wp2
          obtain ⟨V2, hV2⟩ : ∃ V2, V2 = (((w5.setCell ⟨w.heap.size + 1 + 1 + 1, 0, none⟩ (.int .i64 (R.gen : Int))).setCell ⟨w.heap.size + 1 + 1 + 1, 1, none⟩ (.bool R.has)).setCell ⟨w.heap.size + 1 + 1 + 1, 2, none⟩ (.string ⟨R.base.toArray⟩)).setCell ⟨w.heap.size + 1 + 1 + 1, 3, none⟩ (.slice a' R.recs.length cap') := ⟨_, rfl⟩
          obtain ⟨hA7, s2, s3, s1⟩ := HAL.out.put (.int .i64 (R.gen : Int)) (.bool R.has) (.string ⟨R.base.toArray⟩) (.slice a' R.recs.length cap') hV2
          rw [← hV2]
          clear hV2 o0 o1 o2 o3 f0 f1 f2 f3
          refine hK.out _ _ (hA7.flat ((s2 _ (by omega)).trans hxL)) (fun hHeld => ?_)
          clear hK K
          try simp only [Act.put, List.setIfInBounds_toArray, List.set_cons_zero, List.set_cons_succ]
          refine takeH (i := 16) (v := .bool true) 10 rfl rfl (by kernel_rfl) (by kernel_rfl) (by kernel_rfl) (fun _ _ _ h => h) (Or.inl ⟨by rfl, ?_⟩) hHeld ?_
          · intro w hSw; (try dsimp only at hSw); go_simp; (try with_reducible rfl)
          try simp only [Act.put, List.setIfInBounds_toArray, List.set_cons_zero, List.set_cons_succ]
          refine wpAnyH_done (by kernel_rfl) ?_ _
          go_wp2
          have hjl := HJ3.lt
          have hs2 := HA2.out.cells.1
          have hsV := hb4.size
          have hs5 := HB5.out.size
          have hbk : ∀ b, b < w3.heap.size → b ≠ w.heap.size + 1 + 1 + 1 → V2.heap[b]? = w3.heap[b]? := fun b h1 h2 => (s2 b h2).trans ((HB5.out.block b (by omega)).trans (hb4.block b h1))
          refine bodyPost_ret (ret_saved rfl _ _ (w.heap.size + 1 + 1 + 1) _ _ _ _ _ _ rfl rfl rfl s1) rfl ⟨R, d3, a', cap', j, hR2, rfl, Lib.hid ⟨HJ3.row.of_block (hbk j hjl (by omega))⟩, by omega, Lib.hid ⟨strs_keep HR3.lie fun x hx => ?_, fun x hx => ?_⟩, hnil, ho.mono (by omega) (by omega), r2, Lib.hid hA7.pd, Lib.hid hA7.bx⟩
          · have := HR3.own x hx
            exact ⟨hbk _ this.2 (by omega), by omega⟩
          · have := HR3.own x hx
            exact ⟨by omega, by omega⟩
        · have HE1 := Lib.hid (decide_eq_false hRS)
          have HE2 := Lib.hid (decide_eq_true (hR2.resolve_left hRS))
          clear hRS
          refine wp_region_held_drew (S := (fun V => V.cell? ⟨w3.heap.size, 0, none⟩ = some (.int .i64 (R.gen : Int)) ∧ V.cell? ⟨w3.heap.size, 1, none⟩ = some (.bool R.has) ∧ V.cell? ⟨w3.heap.size, 2, none⟩ = some (.string ⟨R.base.toArray⟩) ∧ V.cell? ⟨w3.heap.size, 3, none⟩ = some (.slice a' R.recs.length cap') ∧ V.cell? ⟨w.heap.size + 1, 0, none⟩ = some (.int .i64 (S.gen : Int)) ∧ V.cell? ⟨w.heap.size + 1, 1, none⟩ = some (.bool S.has) ∧ V.cell? ⟨w.heap.size + 1, 2, none⟩ = some (.string ⟨S.base.toArray⟩) ∧ V.cell? ⟨w.heap.size + 1, 3, none⟩ = some (.slice a S.recs.length cap) ∧ V.cell? ⟨w.heap.size + 1 + 1, 0, none⟩ = some (.int .i64 (T.gen : Int)) ∧ V.cell? ⟨w.heap.size + 1 + 1, 1, none⟩ = some (.bool T.has) ∧ V.cell? ⟨w.heap.size + 1 + 1, 2, none⟩ = some (.string ⟨T.base.toArray⟩) ∧ V.cell? ⟨w.heap.size + 1 + 1, 3, none⟩ = some (.slice a2 T.recs.length cap2))) (by kernel_rfl) (FL.out _ HBd.out) (fun hHeld => ?_)
          refine takeH (i := 0) (v := ?_) 44 rfl rfl (by kernel_rfl) (by kernel_rfl) (by kernel_rfl) (fun _ _ _ h => h) (Or.inl ⟨by rfl, ?_⟩) hHeld ?_
          rotate_left
          · intro w hSw; (try dsimp only at hSw); go_simp; (try with_reducible rfl)
          try simp only [Act.put, List.setIfInBounds_toArray, List.set_cons_zero, List.set_cons_succ]
          refine takeH (i := 1) (v := ?_) 45 rfl rfl (by kernel_rfl) (by kernel_rfl) (by kernel_rfl) (fun _ _ _ h => h) (Or.inl ⟨by rfl, ?_⟩) hHeld ?_
          rotate_left
          · intro w hSw; (try dsimp only at hSw); go_simp; (try with_reducible rfl)
          try simp only [Act.put, List.setIfInBounds_toArray, List.set_cons_zero, List.set_cons_succ]
          refine takeH (i := 2) (v := ?_) 46 rfl rfl (by kernel_rfl) (by kernel_rfl) (by kernel_rfl) (fun _ _ _ h => h) (Or.inl ⟨by rfl, ?_⟩) hHeld ?_
          rotate_left
          · intro w hSw; (try dsimp only at hSw); go_simp; (try with_reducible rfl)
          try simp only [Act.put, List.setIfInBounds_toArray, List.set_cons_zero, List.set_cons_succ]
          refine takeH (i := 3) (v := (.bool true)) 47 rfl rfl (by kernel_rfl) (by kernel_rfl) (by kernel_rfl) (fun _ _ _ h => h) (Or.inl ⟨by rfl, ?_⟩) hHeld ?_
          · intro w hSw; (try dsimp only at hSw); go_simp; (try with_reducible rfl); (try omega)
          try simp only [Act.put, List.setIfInBounds_toArray, List.set_cons_zero, List.set_cons_succ]
          refine takeH (i := 4) (v := (.bool true)) 48 rfl rfl (by kernel_rfl) (by kernel_rfl) (by kernel_rfl) (fun _ _ _ h => h) (Or.inl ⟨by rfl, ?_⟩) hHeld ?_
          · intro w hSw; (try dsimp only at hSw); go_simp; (try with_reducible rfl); (try omega)
          try simp only [Act.put, List.setIfInBounds_toArray, List.set_cons_zero, List.set_cons_succ]
          refine takeH (i := 5) (v := ?_) 49 rfl rfl (by kernel_rfl) (by kernel_rfl) (by kernel_rfl) (fun _ _ _ h => h) (Or.inl ⟨by rfl, ?_⟩) hHeld ?_
          rotate_left
          · intro w hSw; (try dsimp only at hSw); go_simp; (try with_reducible rfl)
          try simp only [Act.put, List.setIfInBounds_toArray, List.set_cons_zero, List.set_cons_succ]
          refine takeH (i := 6) (v := ?_) 50 rfl rfl (by kernel_rfl) (by kernel_rfl) (by kernel_rfl) (fun _ _ _ h => h) (Or.inl ⟨by rfl, ?_⟩) hHeld ?_
          rotate_left
          · intro w hSw; (try dsimp only at hSw); go_simp; (try with_reducible rfl)
          try simp only [Act.put, List.setIfInBounds_toArray, List.set_cons_zero, List.set_cons_succ]
          refine wpAnyH_ready (rs := [7]) (by kernel_rfl) (by simp) ?_
          refine AllReadyH.cons rfl (fun K hK => ?_) AllReadyH.nil
          go_simp
          go_wp2_with (go_at_call 13; ((with_reducible refine (SA.out _ R a' cap' (HA4.out.bx.trans (Bx.below HBd.out)) hR2 (HR4.out.below HBd.out)).mono ?_); rintro e w5 ⟨he, hb5⟩; rw [HE1.out] at he; subst he; have HB5 := Lib.hid (below2 HBd.out hb5)))
          refine hK.out _ _ (FL.out _ HB5.out) (fun hHeld => ?_)
          clear hK K
          try simp only [Act.put, List.setIfInBounds_toArray, List.set_cons_zero, List.set_cons_succ]
          refine takeH (i := 8) (v := (.bool false)) 52 rfl rfl (by kernel_rfl) (by kernel_rfl) (by kernel_rfl) (fun _ _ _ h => h) (Or.inl ⟨by rfl, ?_⟩) hHeld ?_
          · intro w hSw; (try dsimp only at hSw); go_simp; (try with_reducible rfl); (try omega)
          try simp only [Act.put, List.setIfInBounds_toArray, List.set_cons_zero, List.set_cons_succ]
          refine takeH (i := 9) (v := ?_) 53 rfl rfl (by kernel_rfl) (by kernel_rfl) (by kernel_rfl) (fun _ _ _ h => h) (Or.inl ⟨by rfl, ?_⟩) hHeld ?_
          rotate_left
          · intro w hSw; (try dsimp only at hSw); go_simp; (try with_reducible rfl)
          try simp only [Act.put, List.setIfInBounds_toArray, List.set_cons_zero, List.set_cons_succ]
          refine takeH (i := 10) (v := ?_) 54 rfl rfl (by kernel_rfl) (by kernel_rfl) (by kernel_rfl) (fun _ _ _ h => h) (Or.inl ⟨by rfl, ?_⟩) hHeld ?_
          rotate_left
          · intro w hSw; (try dsimp only at hSw); go_simp; (try with_reducible rfl)
          try simp only [Act.put, List.setIfInBounds_toArray, List.set_cons_zero, List.set_cons_succ]
          refine wpAnyH_ready (rs := [11]) (by kernel_rfl) (by simp) ?_
          refine AllReadyH.cons rfl (fun K hK => ?_) AllReadyH.nil
          go_simp
          go_wp2_with (go_at_call 13; ((with_reducible refine (TA.out _ R a' cap' (HA4.out.bx.trans (Bx.below HB5.out)) hR2 (HR4.out.below HB5.out)).mono ?_); rintro e w6 ⟨he, hb6⟩; rw [HE2.out] at he; subst he; have HB6 := Lib.hid (below2 HB5.out hb6)))
          refine hK.out _ _ (FL.out _ HB6.out) (fun hHeld => ?_)
          clear hK K
          try simp only [Act.put, List.setIfInBounds_toArray, List.set_cons_zero, List.set_cons_succ]
          refine takeH (i := 12) (v := ?_) 56 rfl rfl (by kernel_rfl) (by kernel_rfl) (by kernel_rfl) (fun _ _ _ h => h) (Or.inl ⟨by rfl, ?_⟩) hHeld ?_
          rotate_left
          · intro w hSw; (try dsimp only at hSw); go_simp; (try with_reducible rfl)
          try simp only [Act.put, List.setIfInBounds_toArray, List.set_cons_zero, List.set_cons_succ]
          refine takeH (i := 13) (v := ?_) 57 rfl rfl (by kernel_rfl) (by kernel_rfl) (by kernel_rfl) (fun _ _ _ h => h) (Or.inl ⟨by rfl, ?_⟩) hHeld ?_
          rotate_left
          · intro w hSw; (try dsimp only at hSw); go_simp; (try with_reducible rfl)
          try simp only [Act.put, List.setIfInBounds_toArray, List.set_cons_zero, List.set_cons_succ]
          refine takeH (i := 14) (v := ?_) 8 rfl rfl (by kernel_rfl) (by kernel_rfl) (by kernel_rfl) (fun _ _ _ h => h) (Or.inl ⟨by rfl, ?_⟩) hHeld ?_
          rotate_left
          · intro w hSw; (try dsimp only at hSw); go_simp; (try with_reducible rfl)
          try simp only [Act.put, List.setIfInBounds_toArray, List.set_cons_zero, List.set_cons_succ]
          have HAL := Lib.hid (HA4.out.below HB6.out)
          have hVl := (Array.getElem?_eq_some_iff.1 HX4.out).1
          have hxL := (HB6.out.block w3.heap.size hVl).trans HX4.out
          obtain ⟨o0, o1, o2, o3, f0, f1, f2, f3⟩ := HAL.out.out3
          have hz3 := HA3.out.cells.1
          refine wpAnyH_ready (rs := [15]) (by kernel_rfl) (by simp) ?_
          refine AllReadyH.cons rfl (fun K hK => ?_) AllReadyH.nil
          go_simp
          go_wp2
          obtain ⟨V2, hV2⟩ : ∃ V2, V2 = (((w6.setCell ⟨w.heap.size + 1 + 1 + 1, 0, none⟩ (.int .i64 (R.gen : Int))).setCell ⟨w.heap.size + 1 + 1 + 1, 1, none⟩ (.bool R.has)).setCell ⟨w.heap.size + 1 + 1 + 1, 2, none⟩ (.string ⟨R.base.toArray⟩)).setCell ⟨w.heap.size + 1 + 1 + 1, 3, none⟩ (.slice a' R.recs.length cap') := ⟨_, rfl⟩
          obtain ⟨hA7, s2, s3, s1⟩ := HAL.out.put (.int .i64 (R.gen : Int)) (.bool R.has) (.string ⟨R.base.toArray⟩) (.slice a' R.recs.length cap') hV2
          rw [← hV2]
          clear hV2 o0 o1 o2 o3 f0 f1 f2 f3
          refine hK.out _ _ (hA7.flat ((s2 _ (by omega)).trans hxL)) (fun hHeld => ?_)
          clear hK K
          try simp only [Act.put, List.setIfInBounds_toArray, List.set_cons_zero, List.set_cons_succ]
          refine takeH (i := 16) (v := .bool true) 10 rfl rfl (by kernel_rfl) (by kernel_rfl) (by kernel_rfl) (fun _ _ _ h => h) (Or.inl ⟨by rfl, ?_⟩) hHeld ?_
          · intro w hSw; (try dsimp only at hSw); go_simp; (try with_reducible rfl)
          try simp only [Act.put, List.setIfInBounds_toArray, List.set_cons_zero, List.set_cons_succ]
          refine wpAnyH_done (by kernel_rfl) ?_ _
          go_wp2
          have hjl := HJ3.lt
          have hs2 := HA2.out.cells.1
          have hsV := hb4.size
          have hs5 := HB6.out.size
          have hbk : ∀ b, b < w3.heap.size → b ≠ w.heap.size + 1 + 1 + 1 → V2.heap[b]? = w3.heap[b]? := fun b h1 h2 => (s2 b h2).trans ((HB6.out.block b (by omega)).trans (hb4.block b h1))
          refine bodyPost_ret (ret_saved rfl _ _ (w.heap.size + 1 + 1 + 1) _ _ _ _ _ _ rfl rfl rfl s1) rfl ⟨R, d3, a', cap', j, hR2, rfl, Lib.hid ⟨HJ3.row.of_block (hbk j hjl (by omega))⟩, by omega, Lib.hid ⟨strs_keep HR3.lie fun x hx => ?_, fun x hx => ?_⟩, hnil, ho.mono (by omega) (by omega), r2, Lib.hid hA7.pd, Lib.hid hA7.bx⟩
          · have := HR3.own x hx
            exact ⟨hbk _ this.2 (by omega), by omega⟩
          · have := HR3.own x hx
            exact ⟨by omega, by omega⟩
      · go_wp2_with (go_at_call 9; (with_reducible refine OP2.out.mono ?_); rintro e w3 ⟨HO, HP3, HX3⟩; have e1 := HO.2 (by decide); subst e1; have HA3 := Lib.hid (HA2.out.step HX3.out HP3.out hcr G2 r2); unfold noSaved)
        refine ⟨⟨i + 1, d3, by omega, rfl, Lib.hid ?_⟩, ?_⟩
        · rw [show k + 3 * (i + 1) = k + 3 * i + 3 by omega, show B + 17 * (i + 1) = B + 17 * i + 17 by omega]
          exact HA3.out.below (below_al (Below.refl _ _) _)
        · show 4 - ((i : Int) + 1).toNat < 4 - ((i : Int)).toNat
          omega
    · have d3 : decide ((i : Int) < 3) = false := decide_eq_false (by omega)
      have i3 : ¬ (i : Int) < 3 := by omega
      have d8 : decide ((i : Int) < 8) = true := decide_eq_true (by omega)
      have i8 : (i : Int) < 8 := by omega
      have hG1 := gr_crash HA.out.gr keep
      obtain ⟨G2, r2, O2⟩ := open_again hR2 hRR hG1 (by omega) (by omega) HA.out.room (by have := hgs R hR2; omega)
      have ho : (openV (crashV d keep) R.gen).1 = 0 ∧ Open' (openV (crashV d keep) R.gen).2 R (k + 3 * i + 3) (B + 17 * i + 17) := by
        rcases O2 with h | ⟨-, h, -⟩
        · exact h
        · exact absurd rfl h
      have OP2 : Hid (∀ W, PD W g m (crashV d keep).files.length (crashV d keep) → Calls Try.prog 9 #[.pointer (some ⟨g, 0, none⟩)] W fun e w' => OpenRes w' W.heap.size g R (openV (crashV d keep) R.gen).1 e ∧ Hid (PD w' g m (openV (crashV d keep) R.gen).2.files.length (openV (crashV d keep) R.gen).2) ∧ Hid (Bx g m W w')) := fun W hp => OP.out W (crashV d keep) R i hi hp hG1 hR2 hRR
      clear O2
      generalize openV (crashV d keep) R.gen = RO at *
      obtain ⟨z, d3⟩ := RO
      dsimp only at *
      obtain ⟨rfl, ho⟩ := ho
      go_upto_region 10 with (first
        | (go_at_call 44; (with_reducible refine (CR.out _ i d hi HA.out.pd HA.out.gr HA.out.bx).mono ?_); rintro e w2 ⟨rfl, HP1, HX1⟩; have HA2 := Lib.hid (HA.out.step HX1.out HP1.out hRR.cr (gr_crash HA.out.gr keep) HA.out.room))
        | (go_at_call 9; (with_reducible refine (OP2.out _ HP1.out).mono ?_); rintro e w3 ⟨HO, HP3, HX3⟩; obtain ⟨j, a', cap', rfl, HJ3, hj3, HR3, hnil⟩ := HO.1 rfl; have HA3 := Lib.hid (HA2.out.step HX3.out HP3.out (ho.live.cr.mono fun X e => (by rw [e]; exact hR2 : Two S T X)) ho.gr r2); unfold savedVal))
      · obtain ⟨V, hV⟩ : ∃ V, V = w3.alloc (.cells #[.int .i64 (R.gen : Int), .bool R.has, .string ⟨R.base.toArray⟩, .slice a' R.recs.length cap'] 33) := ⟨_, rfl⟩
        obtain ⟨hA4, hx4, hb4⟩ := HA3.out.got #[.int .i64 (R.gen : Int), .bool R.has, .string ⟨R.base.toArray⟩, .slice a' R.recs.length cap'] hV
        rw [← hV]
        clear hV
        have HR4 := Lib.hid (HR3.lie.below hb4)
        have FL : Hid (∀ V', Below V.heap.size V V' → V'.cell? ⟨w3.heap.size, 0, none⟩ = some (.int .i64 (R.gen : Int)) ∧ V'.cell? ⟨w3.heap.size, 1, none⟩ = some (.bool R.has) ∧ V'.cell? ⟨w3.heap.size, 2, none⟩ = some (.string ⟨R.base.toArray⟩) ∧ V'.cell? ⟨w3.heap.size, 3, none⟩ = some (.slice a' R.recs.length cap') ∧ V'.cell? ⟨w.heap.size + 1, 0, none⟩ = some (.int .i64 (S.gen : Int)) ∧ V'.cell? ⟨w.heap.size + 1, 1, none⟩ = some (.bool S.has) ∧ V'.cell? ⟨w.heap.size + 1, 2, none⟩ = some (.string ⟨S.base.toArray⟩) ∧ V'.cell? ⟨w.heap.size + 1, 3, none⟩ = some (.slice a S.recs.length cap) ∧ V'.cell? ⟨w.heap.size + 1 + 1, 0, none⟩ = some (.int .i64 (T.gen : Int)) ∧ V'.cell? ⟨w.heap.size + 1 + 1, 1, none⟩ = some (.bool T.has) ∧ V'.cell? ⟨w.heap.size + 1 + 1, 2, none⟩ = some (.string ⟨T.base.toArray⟩) ∧ V'.cell? ⟨w.heap.size + 1 + 1, 3, none⟩ = some (.slice a2 T.recs.length cap2)) := fun V' hb => (hA4.below hb).flat ((hb.block w3.heap.size (Array.getElem?_eq_some_iff.1 hx4).1).trans hx4)
        have HBd : Hid (Below V.heap.size V V.drew) := (Below.refl _ _).drew
        have HA4 := Lib.hid hA4
        have HX4 := Lib.hid hx4
        clear hA4 hx4
        by_cases hRS : R = S
        · have HE1 := Lib.hid (decide_eq_true hRS)
          clear hRS
          refine wp_region_held_drew (S := (fun V => V.cell? ⟨w3.heap.size, 0, none⟩ = some (.int .i64 (R.gen : Int)) ∧ V.cell? ⟨w3.heap.size, 1, none⟩ = some (.bool R.has) ∧ V.cell? ⟨w3.heap.size, 2, none⟩ = some (.string ⟨R.base.toArray⟩) ∧ V.cell? ⟨w3.heap.size, 3, none⟩ = some (.slice a' R.recs.length cap') ∧ V.cell? ⟨w.heap.size + 1, 0, none⟩ = some (.int .i64 (S.gen : Int)) ∧ V.cell? ⟨w.heap.size + 1, 1, none⟩ = some (.bool S.has) ∧ V.cell? ⟨w.heap.size + 1, 2, none⟩ = some (.string ⟨S.base.toArray⟩) ∧ V.cell? ⟨w.heap.size + 1, 3, none⟩ = some (.slice a S.recs.length cap) ∧ V.cell? ⟨w.heap.size + 1 + 1, 0, none⟩ = some (.int .i64 (T.gen : Int)) ∧ V.cell? ⟨w.heap.size + 1 + 1, 1, none⟩ = some (.bool T.has) ∧ V.cell? ⟨w.heap.size + 1 + 1, 2, none⟩ = some (.string ⟨T.base.toArray⟩) ∧ V.cell? ⟨w.heap.size + 1 + 1, 3, none⟩ = some (.slice a2 T.recs.length cap2))) (by kernel_rfl) (FL.out _ HBd.out) (fun hHeld => ?_)
          refine takeH (i := 0) (v := ?_) 44 rfl rfl (by kernel_rfl) (by kernel_rfl) (by kernel_rfl) (fun _ _ _ h => h) (Or.inl ⟨by rfl, ?_⟩) hHeld ?_
          rotate_left
          · intro w hSw; (try dsimp only at hSw); go_simp; (try with_reducible rfl)
          try simp only [Act.put, List.setIfInBounds_toArray, List.set_cons_zero, List.set_cons_succ]
          refine takeH (i := 1) (v := ?_) 45 rfl rfl (by kernel_rfl) (by kernel_rfl) (by kernel_rfl) (fun _ _ _ h => h) (Or.inl ⟨by rfl, ?_⟩) hHeld ?_
          rotate_left
          · intro w hSw; (try dsimp only at hSw); go_simp; (try with_reducible rfl)
          try simp only [Act.put, List.setIfInBounds_toArray, List.set_cons_zero, List.set_cons_succ]
          refine takeH (i := 2) (v := ?_) 46 rfl rfl (by kernel_rfl) (by kernel_rfl) (by kernel_rfl) (fun _ _ _ h => h) (Or.inl ⟨by rfl, ?_⟩) hHeld ?_
          rotate_left
          · intro w hSw; (try dsimp only at hSw); go_simp; (try with_reducible rfl)
          try simp only [Act.put, List.setIfInBounds_toArray, List.set_cons_zero, List.set_cons_succ]
          refine takeH (i := 3) (v := (.bool true)) 47 rfl rfl (by kernel_rfl) (by kernel_rfl) (by kernel_rfl) (fun _ _ _ h => h) (Or.inl ⟨by rfl, ?_⟩) hHeld ?_
          · intro w hSw; (try dsimp only at hSw); go_simp; (try with_reducible rfl); (try omega)
          try simp only [Act.put, List.setIfInBounds_toArray, List.set_cons_zero, List.set_cons_succ]
          refine takeH (i := 4) (v := (.bool true)) 48 rfl rfl (by kernel_rfl) (by kernel_rfl) (by kernel_rfl) (fun _ _ _ h => h) (Or.inl ⟨by rfl, ?_⟩) hHeld ?_
          · intro w hSw; (try dsimp only at hSw); go_simp; (try with_reducible rfl); (try omega)
          try simp only [Act.put, List.setIfInBounds_toArray, List.set_cons_zero, List.set_cons_succ]
          refine takeH (i := 5) (v := ?_) 49 rfl rfl (by kernel_rfl) (by kernel_rfl) (by kernel_rfl) (fun _ _ _ h => h) (Or.inl ⟨by rfl, ?_⟩) hHeld ?_
          rotate_left
          · intro w hSw; (try dsimp only at hSw); go_simp; (try with_reducible rfl)
          try simp only [Act.put, List.setIfInBounds_toArray, List.set_cons_zero, List.set_cons_succ]
          refine takeH (i := 6) (v := ?_) 50 rfl rfl (by kernel_rfl) (by kernel_rfl) (by kernel_rfl) (fun _ _ _ h => h) (Or.inl ⟨by rfl, ?_⟩) hHeld ?_
          rotate_left
          · intro w hSw; (try dsimp only at hSw); go_simp; (try with_reducible rfl)
          try simp only [Act.put, List.setIfInBounds_toArray, List.set_cons_zero, List.set_cons_succ]
          refine wpAnyH_ready (rs := [7]) (by kernel_rfl) (by simp) ?_
          refine AllReadyH.cons rfl (fun K hK => ?_) AllReadyH.nil
          go_simp
          go_wp2_with (go_at_call 13; ((with_reducible refine (SA.out _ R a' cap' (HA4.out.bx.trans (Bx.below HBd.out)) hR2 (HR4.out.below HBd.out)).mono ?_); rintro e w5 ⟨he, hb5⟩; rw [HE1.out] at he; subst he; have HB5 := Lib.hid (below2 HBd.out hb5)))
          refine hK.out _ _ (FL.out _ HB5.out) (fun hHeld => ?_)
          clear hK K
          try simp only [Act.put, List.setIfInBounds_toArray, List.set_cons_zero, List.set_cons_succ]
          refine takeH (i := 8) (v := (.bool true)) 52 rfl rfl (by kernel_rfl) (by kernel_rfl) (by kernel_rfl) (fun _ _ _ h => h) (Or.inl ⟨by rfl, ?_⟩) hHeld ?_
          · intro w hSw; (try dsimp only at hSw); go_simp; (try with_reducible rfl); (try omega)
          try simp only [Act.put, List.setIfInBounds_toArray, List.set_cons_zero, List.set_cons_succ]
          refine takeH (i := 9) (v := undef) 53 rfl rfl (by kernel_rfl) (by kernel_rfl) (by kernel_rfl) (fun _ _ _ h => h) (Or.inr ⟨by kernel_rfl, rfl⟩) hHeld ?_
          try simp only [Act.put, List.setIfInBounds_toArray, List.set_cons_zero, List.set_cons_succ]
          refine takeH (i := 10) (v := undef) 54 rfl rfl (by kernel_rfl) (by kernel_rfl) (by kernel_rfl) (fun _ _ _ h => h) (Or.inr ⟨by kernel_rfl, rfl⟩) hHeld ?_
          try simp only [Act.put, List.setIfInBounds_toArray, List.set_cons_zero, List.set_cons_succ]
          refine takeH (i := 11) (v := undef) 55 rfl rfl (by kernel_rfl) (by kernel_rfl) (by kernel_rfl) (fun _ _ _ h => h) (Or.inr ⟨by kernel_rfl, rfl⟩) hHeld ?_
          try simp only [Act.put, List.setIfInBounds_toArray, List.set_cons_zero, List.set_cons_succ]
          refine takeH (i := 12) (v := ?_) 56 rfl rfl (by kernel_rfl) (by kernel_rfl) (by kernel_rfl) (fun _ _ _ h => h) (Or.inl ⟨by rfl, ?_⟩) hHeld ?_
          rotate_left
          · intro w hSw; (try dsimp only at hSw); go_simp; (try with_reducible rfl)
          try simp only [Act.put, List.setIfInBounds_toArray, List.set_cons_zero, List.set_cons_succ]
          refine takeH (i := 13) (v := ?_) 57 rfl rfl (by kernel_rfl) (by kernel_rfl) (by kernel_rfl) (fun _ _ _ h => h) (Or.inl ⟨by rfl, ?_⟩) hHeld ?_
          rotate_left
          · intro w hSw; (try dsimp only at hSw); go_simp; (try with_reducible rfl)
          try simp only [Act.put, List.setIfInBounds_toArray, List.set_cons_zero, List.set_cons_succ]
          refine takeH (i := 14) (v := ?_) 8 rfl rfl (by kernel_rfl) (by kernel_rfl) (by kernel_rfl) (fun _ _ _ h => h) (Or.inl ⟨by rfl, ?_⟩) hHeld ?_
          rotate_left
          · intro w hSw; (try dsimp only at hSw); go_simp; (try with_reducible rfl)
          try simp only [Act.put, List.setIfInBounds_toArray, List.set_cons_zero, List.set_cons_succ]
          have HAL := Lib.hid (HA4.out.below HB5.out)
          have hVl := (Array.getElem?_eq_some_iff.1 HX4.out).1
          have hxL := (HB5.out.block w3.heap.size hVl).trans HX4.out
          obtain ⟨o0, o1, o2, o3, f0, f1, f2, f3⟩ := HAL.out.out3
          have hz3 := HA3.out.cells.1
          refine wpAnyH_ready (rs := [15]) (by kernel_rfl) (by simp) ?_
          refine AllReadyH.cons rfl (fun K hK => ?_) AllReadyH.nil
          go_simp
          go_wp2
          obtain ⟨V2, hV2⟩ : ∃ V2, V2 = (((w5.setCell ⟨w.heap.size + 1 + 1 + 1, 0, none⟩ (.int .i64 (R.gen : Int))).setCell ⟨w.heap.size + 1 + 1 + 1, 1, none⟩ (.bool R.has)).setCell ⟨w.heap.size + 1 + 1 + 1, 2, none⟩ (.string ⟨R.base.toArray⟩)).setCell ⟨w.heap.size + 1 + 1 + 1, 3, none⟩ (.slice a' R.recs.length cap') := ⟨_, rfl⟩
          obtain ⟨hA7, s2, s3, s1⟩ := HAL.out.put (.int .i64 (R.gen : Int)) (.bool R.has) (.string ⟨R.base.toArray⟩) (.slice a' R.recs.length cap') hV2
          rw [← hV2]
          clear hV2 o0 o1 o2 o3 f0 f1 f2 f3
          refine hK.out _ _ (hA7.flat ((s2 _ (by omega)).trans hxL)) (fun hHeld => ?_)
          clear hK K
          try simp only [Act.put, List.setIfInBounds_toArray, List.set_cons_zero, List.set_cons_succ]
          refine takeH (i := 16) (v := .bool true) 10 rfl rfl (by kernel_rfl) (by kernel_rfl) (by kernel_rfl) (fun _ _ _ h => h) (Or.inl ⟨by rfl, ?_⟩) hHeld ?_
          · intro w hSw; (try dsimp only at hSw); go_simp; (try with_reducible rfl)
          try simp only [Act.put, List.setIfInBounds_toArray, List.set_cons_zero, List.set_cons_succ]
          refine wpAnyH_done (by kernel_rfl) ?_ _
          go_wp2
          have hjl := HJ3.lt
          have hs2 := HA2.out.cells.1
          have hsV := hb4.size
          have hs5 := HB5.out.size
          have hbk : ∀ b, b < w3.heap.size → b ≠ w.heap.size + 1 + 1 + 1 → V2.heap[b]? = w3.heap[b]? := fun b h1 h2 => (s2 b h2).trans ((HB5.out.block b (by omega)).trans (hb4.block b h1))
          refine bodyPost_ret (ret_saved rfl _ _ (w.heap.size + 1 + 1 + 1) _ _ _ _ _ _ rfl rfl rfl s1) rfl ⟨R, d3, a', cap', j, hR2, rfl, Lib.hid ⟨HJ3.row.of_block (hbk j hjl (by omega))⟩, by omega, Lib.hid ⟨strs_keep HR3.lie fun x hx => ?_, fun x hx => ?_⟩, hnil, ho.mono (by omega) (by omega), r2, Lib.hid hA7.pd, Lib.hid hA7.bx⟩
          · have := HR3.own x hx
            exact ⟨hbk _ this.2 (by omega), by omega⟩
          · have := HR3.own x hx
            exact ⟨by omega, by omega⟩
        · have HE1 := Lib.hid (decide_eq_false hRS)
          have HE2 := Lib.hid (decide_eq_true (hR2.resolve_left hRS))
          clear hRS
          refine wp_region_held_drew (S := (fun V => V.cell? ⟨w3.heap.size, 0, none⟩ = some (.int .i64 (R.gen : Int)) ∧ V.cell? ⟨w3.heap.size, 1, none⟩ = some (.bool R.has) ∧ V.cell? ⟨w3.heap.size, 2, none⟩ = some (.string ⟨R.base.toArray⟩) ∧ V.cell? ⟨w3.heap.size, 3, none⟩ = some (.slice a' R.recs.length cap') ∧ V.cell? ⟨w.heap.size + 1, 0, none⟩ = some (.int .i64 (S.gen : Int)) ∧ V.cell? ⟨w.heap.size + 1, 1, none⟩ = some (.bool S.has) ∧ V.cell? ⟨w.heap.size + 1, 2, none⟩ = some (.string ⟨S.base.toArray⟩) ∧ V.cell? ⟨w.heap.size + 1, 3, none⟩ = some (.slice a S.recs.length cap) ∧ V.cell? ⟨w.heap.size + 1 + 1, 0, none⟩ = some (.int .i64 (T.gen : Int)) ∧ V.cell? ⟨w.heap.size + 1 + 1, 1, none⟩ = some (.bool T.has) ∧ V.cell? ⟨w.heap.size + 1 + 1, 2, none⟩ = some (.string ⟨T.base.toArray⟩) ∧ V.cell? ⟨w.heap.size + 1 + 1, 3, none⟩ = some (.slice a2 T.recs.length cap2))) (by kernel_rfl) (FL.out _ HBd.out) (fun hHeld => ?_)
          refine takeH (i := 0) (v := ?_) 44 rfl rfl (by kernel_rfl) (by kernel_rfl) (by kernel_rfl) (fun _ _ _ h => h) (Or.inl ⟨by rfl, ?_⟩) hHeld ?_
          rotate_left
          · intro w hSw; (try dsimp only at hSw); go_simp; (try with_reducible rfl)
          try simp only [Act.put, List.setIfInBounds_toArray, List.set_cons_zero, List.set_cons_succ]
          refine takeH (i := 1) (v := ?_) 45 rfl rfl (by kernel_rfl) (by kernel_rfl) (by kernel_rfl) (fun _ _ _ h => h) (Or.inl ⟨by rfl, ?_⟩) hHeld ?_
          rotate_left
          · intro w hSw; (try dsimp only at hSw); go_simp; (try with_reducible rfl)
          try simp only [Act.put, List.setIfInBounds_toArray, List.set_cons_zero, List.set_cons_succ]
          refine takeH (i := 2) (v := ?_) 46 rfl rfl (by kernel_rfl) (by kernel_rfl) (by kernel_rfl) (fun _ _ _ h => h) (Or.inl ⟨by rfl, ?_⟩) hHeld ?_
          rotate_left
          · intro w hSw; (try dsimp only at hSw); go_simp; (try with_reducible rfl)
          try simp only [Act.put, List.setIfInBounds_toArray, List.set_cons_zero, List.set_cons_succ]
          refine takeH (i := 3) (v := (.bool true)) 47 rfl rfl (by kernel_rfl) (by kernel_rfl) (by kernel_rfl) (fun _ _ _ h => h) (Or.inl ⟨by rfl, ?_⟩) hHeld ?_
          · intro w hSw; (try dsimp only at hSw); go_simp; (try with_reducible rfl); (try omega)
          try simp only [Act.put, List.setIfInBounds_toArray, List.set_cons_zero, List.set_cons_succ]
          refine takeH (i := 4) (v := (.bool true)) 48 rfl rfl (by kernel_rfl) (by kernel_rfl) (by kernel_rfl) (fun _ _ _ h => h) (Or.inl ⟨by rfl, ?_⟩) hHeld ?_
          · intro w hSw; (try dsimp only at hSw); go_simp; (try with_reducible rfl); (try omega)
          try simp only [Act.put, List.setIfInBounds_toArray, List.set_cons_zero, List.set_cons_succ]
          refine takeH (i := 5) (v := ?_) 49 rfl rfl (by kernel_rfl) (by kernel_rfl) (by kernel_rfl) (fun _ _ _ h => h) (Or.inl ⟨by rfl, ?_⟩) hHeld ?_
          rotate_left
          · intro w hSw; (try dsimp only at hSw); go_simp; (try with_reducible rfl)
          try simp only [Act.put, List.setIfInBounds_toArray, List.set_cons_zero, List.set_cons_succ]
          refine takeH (i := 6) (v := ?_) 50 rfl rfl (by kernel_rfl) (by kernel_rfl) (by kernel_rfl) (fun _ _ _ h => h) (Or.inl ⟨by rfl, ?_⟩) hHeld ?_
          rotate_left
          · intro w hSw; (try dsimp only at hSw); go_simp; (try with_reducible rfl)
          try simp only [Act.put, List.setIfInBounds_toArray, List.set_cons_zero, List.set_cons_succ]
          refine wpAnyH_ready (rs := [7]) (by kernel_rfl) (by simp) ?_
          refine AllReadyH.cons rfl (fun K hK => ?_) AllReadyH.nil
          go_simp
          go_wp2_with (go_at_call 13; ((with_reducible refine (SA.out _ R a' cap' (HA4.out.bx.trans (Bx.below HBd.out)) hR2 (HR4.out.below HBd.out)).mono ?_); rintro e w5 ⟨he, hb5⟩; rw [HE1.out] at he; subst he; have HB5 := Lib.hid (below2 HBd.out hb5)))
          refine hK.out _ _ (FL.out _ HB5.out) (fun hHeld => ?_)
          clear hK K
          try simp only [Act.put, List.setIfInBounds_toArray, List.set_cons_zero, List.set_cons_succ]
          refine takeH (i := 8) (v := (.bool false)) 52 rfl rfl (by kernel_rfl) (by kernel_rfl) (by kernel_rfl) (fun _ _ _ h => h) (Or.inl ⟨by rfl, ?_⟩) hHeld ?_
          · intro w hSw; (try dsimp only at hSw); go_simp; (try with_reducible rfl); (try omega)
          try simp only [Act.put, List.setIfInBounds_toArray, List.set_cons_zero, List.set_cons_succ]
          refine takeH (i := 9) (v := ?_) 53 rfl rfl (by kernel_rfl) (by kernel_rfl) (by kernel_rfl) (fun _ _ _ h => h) (Or.inl ⟨by rfl, ?_⟩) hHeld ?_
          rotate_left
          · intro w hSw; (try dsimp only at hSw); go_simp; (try with_reducible rfl)
          try simp only [Act.put, List.setIfInBounds_toArray, List.set_cons_zero, List.set_cons_succ]
          refine takeH (i := 10) (v := ?_) 54 rfl rfl (by kernel_rfl) (by kernel_rfl) (by kernel_rfl) (fun _ _ _ h => h) (Or.inl ⟨by rfl, ?_⟩) hHeld ?_
          rotate_left
          · intro w hSw; (try dsimp only at hSw); go_simp; (try with_reducible rfl)
          try simp only [Act.put, List.setIfInBounds_toArray, List.set_cons_zero, List.set_cons_succ]
          refine wpAnyH_ready (rs := [11]) (by kernel_rfl) (by simp) ?_
          refine AllReadyH.cons rfl (fun K hK => ?_) AllReadyH.nil
          go_simp
          go_wp2_with (go_at_call 13; ((with_reducible refine (TA.out _ R a' cap' (HA4.out.bx.trans (Bx.below HB5.out)) hR2 (HR4.out.below HB5.out)).mono ?_); rintro e w6 ⟨he, hb6⟩; rw [HE2.out] at he; subst he; have HB6 := Lib.hid (below2 HB5.out hb6)))
          refine hK.out _ _ (FL.out _ HB6.out) (fun hHeld => ?_)
          clear hK K
          try simp only [Act.put, List.setIfInBounds_toArray, List.set_cons_zero, List.set_cons_succ]
          refine takeH (i := 12) (v := ?_) 56 rfl rfl (by kernel_rfl) (by kernel_rfl) (by kernel_rfl) (fun _ _ _ h => h) (Or.inl ⟨by rfl, ?_⟩) hHeld ?_
          rotate_left
          · intro w hSw; (try dsimp only at hSw); go_simp; (try with_reducible rfl)
          try simp only [Act.put, List.setIfInBounds_toArray, List.set_cons_zero, List.set_cons_succ]
          refine takeH (i := 13) (v := ?_) 57 rfl rfl (by kernel_rfl) (by kernel_rfl) (by kernel_rfl) (fun _ _ _ h => h) (Or.inl ⟨by rfl, ?_⟩) hHeld ?_
          rotate_left
          · intro w hSw; (try dsimp only at hSw); go_simp; (try with_reducible rfl)
          try simp only [Act.put, List.setIfInBounds_toArray, List.set_cons_zero, List.set_cons_succ]
          refine takeH (i := 14) (v := ?_) 8 rfl rfl (by kernel_rfl) (by kernel_rfl) (by kernel_rfl) (fun _ _ _ h => h) (Or.inl ⟨by rfl, ?_⟩) hHeld ?_
          rotate_left
          · intro w hSw; (try dsimp only at hSw); go_simp; (try with_reducible rfl)
          try simp only [Act.put, List.setIfInBounds_toArray, List.set_cons_zero, List.set_cons_succ]
          have HAL := Lib.hid (HA4.out.below HB6.out)
          have hVl := (Array.getElem?_eq_some_iff.1 HX4.out).1
          have hxL := (HB6.out.block w3.heap.size hVl).trans HX4.out
          obtain ⟨o0, o1, o2, o3, f0, f1, f2, f3⟩ := HAL.out.out3
          have hz3 := HA3.out.cells.1
          refine wpAnyH_ready (rs := [15]) (by kernel_rfl) (by simp) ?_
          refine AllReadyH.cons rfl (fun K hK => ?_) AllReadyH.nil
          go_simp
          go_wp2
          obtain ⟨V2, hV2⟩ : ∃ V2, V2 = (((w6.setCell ⟨w.heap.size + 1 + 1 + 1, 0, none⟩ (.int .i64 (R.gen : Int))).setCell ⟨w.heap.size + 1 + 1 + 1, 1, none⟩ (.bool R.has)).setCell ⟨w.heap.size + 1 + 1 + 1, 2, none⟩ (.string ⟨R.base.toArray⟩)).setCell ⟨w.heap.size + 1 + 1 + 1, 3, none⟩ (.slice a' R.recs.length cap') := ⟨_, rfl⟩
          obtain ⟨hA7, s2, s3, s1⟩ := HAL.out.put (.int .i64 (R.gen : Int)) (.bool R.has) (.string ⟨R.base.toArray⟩) (.slice a' R.recs.length cap') hV2
          rw [← hV2]
          clear hV2 o0 o1 o2 o3 f0 f1 f2 f3
          refine hK.out _ _ (hA7.flat ((s2 _ (by omega)).trans hxL)) (fun hHeld => ?_)
          clear hK K
          try simp only [Act.put, List.setIfInBounds_toArray, List.set_cons_zero, List.set_cons_succ]
          refine takeH (i := 16) (v := .bool true) 10 rfl rfl (by kernel_rfl) (by kernel_rfl) (by kernel_rfl) (fun _ _ _ h => h) (Or.inl ⟨by rfl, ?_⟩) hHeld ?_
          · intro w hSw; (try dsimp only at hSw); go_simp; (try with_reducible rfl)
          try simp only [Act.put, List.setIfInBounds_toArray, List.set_cons_zero, List.set_cons_succ]
          refine wpAnyH_done (by kernel_rfl) ?_ _
          go_wp2
          have hjl := HJ3.lt
          have hs2 := HA2.out.cells.1
          have hsV := hb4.size
          have hs5 := HB6.out.size
          have hbk : ∀ b, b < w3.heap.size → b ≠ w.heap.size + 1 + 1 + 1 → V2.heap[b]? = w3.heap[b]? := fun b h1 h2 => (s2 b h2).trans ((HB6.out.block b (by omega)).trans (hb4.block b h1))
          refine bodyPost_ret (ret_saved rfl _ _ (w.heap.size + 1 + 1 + 1) _ _ _ _ _ _ rfl rfl rfl s1) rfl ⟨R, d3, a', cap', j, hR2, rfl, Lib.hid ⟨HJ3.row.of_block (hbk j hjl (by omega))⟩, by omega, Lib.hid ⟨strs_keep HR3.lie fun x hx => ?_, fun x hx => ?_⟩, hnil, ho.mono (by omega) (by omega), r2, Lib.hid hA7.pd, Lib.hid hA7.bx⟩
          · have := HR3.own x hx
            exact ⟨hbk _ this.2 (by omega), by omega⟩
          · have := HR3.own x hx
            exact ⟨by omega, by omega⟩
end Jrn
end Go.Proofs.Yteaikleofboknaa
end
section
set_option maxRecDepth 100000
namespace Go.Proofs.Yteaikleofboknaa
open Go.RowKit Go.Great Go.Maps
namespace Ord
section
variable {P : Program} {md : Region.Mode} {ops : Array Oper} {Q : Exit → Act → World → Prop} {S : World → Prop} {D : Nat → Bool}
/-- Three may come next. -/
theorem wpAnyU_three {i j k : Nat} {o p q : Oper} {fuel : Nat} {listed : Array Bool} {a : Act} {w : World} (hr : Region.ready md ops listed = [i, j, k]) (ho : ops[i]? = some o) (hp : ops[j]? = some p) (hq : ops[k]? = some q)
    (h : ∀ K' : Act → World → Prop, Shut (∀ a w, (D i = false → S w) → wpAnyU P md ops Q S D fuel (listed.setIfInBounds i true) a w → K' a w) → if Region.wanted o (yielded ops a.tmps) = true then Oper.wp P o a w K' Q else K' (a.put o.dst undef) w)
    (h2 : ∀ K' : Act → World → Prop, Shut (∀ a w, (D j = false → S w) → wpAnyU P md ops Q S D fuel (listed.setIfInBounds j true) a w → K' a w) → if Region.wanted p (yielded ops a.tmps) = true then Oper.wp P p a w K' Q else K' (a.put p.dst undef) w)
    (h3 : ∀ K' : Act → World → Prop, Shut (∀ a w, (D k = false → S w) → wpAnyU P md ops Q S D fuel (listed.setIfInBounds k true) a w → K' a w) → if Region.wanted q (yielded ops a.tmps) = true then Oper.wp P q a w K' Q else K' (a.put q.dst undef) w) :
    wpAnyU P md ops Q S D (fuel + 1) listed a w := by
  refine ⟨fun h0 => absurd (hr ▸ h0) (by simp), fun x hx => ?_⟩
  rw [hr] at hx
  rcases List.mem_cons.1 hx with e | hx
  · rw [e]
    exact wpOp_step ho fun K' hK => h K' fun a w hS hW => hK a w ⟨hS, hW⟩
  rcases List.mem_cons.1 hx with e | hx
  · rw [e]
    exact wpOp_step hp fun K' hK => h2 K' fun a w hS hW => hK a w ⟨hS, hW⟩
  · rw [List.mem_singleton.1 hx]
    exact wpOp_step hq fun K' hK => h3 K' fun a w hS hW => hK a w ⟨hS, hW⟩
end
end Ord
namespace Jrn
/-- An own row and a box of another type do not lie in one block. -/
theorem own_ne {W : World} {base : Nat} {e T : TypeId} {v : Value} {n : Nat} {l : List Value} {xb : Nat} {r : Array Value} (h : W.ownsRow base e 1 v n l) (hx : W.heap[xb]? = some (.cells r T)) (hne : e ≠ T) : some xb ≠ v.ownBlock := by
  rcases h with ⟨_, ⟨rfl, _⟩ | ⟨g, c, cur, rfl, _, hg, _⟩⟩
  · intro e; cases e
  · intro e
    have : xb = g := Option.some.inj e
    subst this
    rw [hx] at hg
    cases hg
    exact hne rfl
open Frm (fits num put scan strs rows allS allE oks ok cats)
open In (strVals Strs)
open Dsk (below2 below_al below_dN DkIn PD Bx Dok FileIn newD namesV crashV fuseV)
/-- A journal lives and all is sure, or it is dead, and one of two is saved. -/
def Fate (W : World) (j g : Nat) (S T : SavedIn) (d : DkIn) : Prop :=
  (S = T ∧ Live d S ∧ d.dead = false ∧ JR W j g (S.gen : Int) (S.recs.length : Int) false) ∨ (d.dead = true ∧ Cr d (Two S T) ∧ ∃ gen cnt dead, JR W j g gen cnt dead)
theorem Fate.cr {W : World} {j g : Nat} {S T : SavedIn} {d : DkIn} (h : Fate W j g S T d) : Cr d (Two S T) := by
  rcases h with ⟨h1, h2, -, -⟩ | ⟨-, h, -⟩
  · exact h2.cr.mono fun X e => Or.inl e
  · exact h
/-- What an act answers: z, what is saved now and what may be. -/
def Did3 (z : Int) (W : World) (g m j : Nat) (S N : SavedIn) (k B : Nat) : Prop :=
  ∃ d', Gr d' k B ∧ d'.room = 1048576 ∧ PD W g m d'.files.length d' ∧
    ((z = 0 ∧ Fate W j g N N d') ∨ (z = 14 ∧ Fate W j g S N d'))
theorem app_sure (V : World) (g m j : Nat) (S : SavedIn) (d : DkIn) (k B : Nat) (hG : Gr d k B) (hr0 : d.room = 1048576) (hL : Live d S) (hd : d.dead = false) (hk : k < 800000) (hB : B ≤ 900000) (hp : PD V g m d.files.length d) (hj : JR V j g (S.gen : Int) (S.recs.length : Int) false) (hjg : j ≠ g) (hjm : j ≠ m) (hr : S.recs.length ≤ 1000) (s : ByteArray) (hs : s.size ≤ 300) (hf : fits s.size = true) :
    Calls Try.prog 10 #[.pointer (some ⟨j, 0, none⟩), .string s] V fun e w' => ∃ z, e = .returned (.int .i64 z) ∧ Hid (Did3 z w' g m j S { S with recs := S.recs ++ [s.data.toList] } (k + 2) (B + (8 + s.size))) ∧ Hid (Bj g m j V w') := by
  refine (append_j V j g m k B d ⟨hp, hG⟩ (by omega) (S.gen : Int) (S.recs.length : Int) (by omega) hj hjg hjm hd s hf).mono fun e w' ⟨h1, h2⟩ => ⟨_, h1, Lib.hid ?_, h2.out.bj⟩
  have h3 := h2.out.pd
  have h4 := h2.out.jr
  have hG2 := gr_write hG (by omega) s.data.toList
  rw [sz_list] at hG2
  have hby := hG.by'
  rcases write_end hG.ok.fok hd hL s.data.toList (by rw [sz_list]; exact hf) with ⟨e1, e2⟩ | hE
  · rw [sz_list] at e2
    omega
  · refine ⟨_, hG2, hE.room.trans hr0, h3, ?_⟩
    rcases hE.ends with ⟨e1, e2, -, T, rfl, e4⟩ | ⟨e1, e2, e3, e4⟩
    · rw [e1] at h4
      refine Or.inl ⟨e1, Or.inl ⟨rfl, e4, e2, ?_⟩⟩
      show JR w' j g (S.gen : Int) (((S.recs ++ [s.data.toList]).length : Nat) : Int) false
      rw [List.length_append]
      exact h4
    · exact Or.inr ⟨e1, Or.inr ⟨e2, e4, _, _, _, h4⟩⟩
theorem snap_sure (V : World) (g m j : Nat) (S : SavedIn) (d : DkIn) (k B : Nat) (hG : Gr d k B) (hr0 : d.room = 1048576) (hL : Live d S) (hd : d.dead = false) (hk : k < 90000) (hB : B ≤ 900000) (hp : PD V g m d.files.length d) (hj : JR V j g (S.gen : Int) (S.recs.length : Int) false) (hjg : j ≠ g) (hjm : j ≠ m) (hg : S.gen ≤ 1000) (s : ByteArray) (hs : s.size ≤ 12000) :
    Calls Try.prog 12 #[.pointer (some ⟨j, 0, none⟩), .string s] V fun e w' => ∃ z, e = .returned (.int .i64 z) ∧ Hid (Did3 z w' g m j S ⟨S.gen + 1, true, s.data.toList, []⟩ (k + 8) (B + 12100)) ∧ Hid (Bj g m j V w') := by
  refine (snap_j V j g m k B d ⟨hp, hG⟩ (by omega) S.gen (by omega) (S.recs.length : Int) hj hjg hjm hd s (by omega)).mono fun e w' ⟨h1, h2⟩ => ⟨_, h1, Lib.hid ?_, h2.out.bj⟩
  have h3 := h2.out.pd
  have h4 := h2.out.jr
  have hl := (fileB_len (S.gen + 1) s.data.toList).2
  rw [sz_list] at hl
  have hG2 := (gr_snap hG (by omega) S.gen s.data.toList).mono (Nat.le_refl (k + 8)) (show B + (fileB (S.gen + 1) s.data.toList).length + 17 ≤ B + 12100 by omega)
  have hby := hG.by'
  obtain ⟨h5, h6⟩ := snap_end hG (by omega) hd hL s.data.toList
  refine ⟨_, hG2, h5.trans hr0, h3, ?_⟩
  rcases h6 with ⟨e1, e2, -, e4⟩ | ⟨-, -, -, -, e4⟩ | ⟨e1, e2, e3, e4⟩
  · rw [e1] at h4
    exact Or.inl ⟨e1, Or.inl ⟨rfl, e4, e2, h4⟩⟩
  · omega
  · exact Or.inr ⟨e1, Or.inr ⟨e2, e4, _, _, _, h4⟩⟩
end Jrn
end Go.Proofs.Yteaikleofboknaa
end
