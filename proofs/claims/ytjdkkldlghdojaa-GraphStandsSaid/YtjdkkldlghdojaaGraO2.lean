/- The order of a web's nodes: the walk. -/
import Derived.Test.YtjdkkldlghdojaaGraO
import Derived.Deep.DeepMust
namespace Go.Proofs.Ytjdkkldlghdojaa
open Go.RowKit
namespace Gra
open In (Ints IsInts)
set_option maxRecDepth 100000 in
set_option maxHeartbeats 8000000 in
theorem order_any (g n : Nat) (E : List (Int × Int)) (C : Nat → Value) (W : World) (hn : n ≤ 64) (hE : E.length ≤ 256) (hr : ∀ e ∈ E, (1 ≤ e.1 ∧ e.1 ≤ (n : Int)) ∧ (1 ≤ e.2 ∧ e.2 ≤ (n : Int))) (hC : OrdC W g (n : Int) E C) (hW : OrdW W g C (cnt E []) W) :
    Calls Try.prog 24 #[.pointer (some ⟨g, 0, none⟩)] W (OrderOut W g n E C) := by
  have HC := Lib.hid hC
  have HR := Lib.hid hr
  have HW0 := Lib.hid hW
  have HN : Hid (n ≤ 64 ∧ E.length ≤ 256) := ⟨hn, hE⟩
  obtain ⟨i0, hi, hz0, hz1, hz2⟩ := info_parts info3
  have hgS := hC.lt
  clear hC hr hW
  go_enter Try.func24, Try.ntmps24
  go_wp2
  go_loopw [3, 5] (fun v3 v5 wr => ∃ k : Nat, k ≤ n ∧ v5 = .int .i64 ((k + 1 : Nat) : Int) ∧ Hid (wr.ownsRow W.heap.size 3 1 v3 (frees (cnt E []) k).length ((frees (cnt E []) k).map (Value.int .i64))) ∧ Hid (OrdW W g C (cnt E []) wr)) (fun _ v5 _ => n + 1 - (intOf v5).toNat)
  case atStart => exact ⟨0, by omega, rfl, World.ownsRow_nil _ _ _ _, HW0⟩
  case round =>
    obtain ⟨k, hk, rfl, HO, HWr⟩ := hrel
    have c0 := HC.out.cell0 HWr.out
    have hsz := HWr.out.grow.size
    by_cases hlt : k + 1 ≤ n
    · have hlt1 : ((k + 1 : Nat) : Int) ≤ (n : Int) := by omega
      have cO := HC.out.cellO HWr.out (k + 1) (by omega)
      have HF : Hid (frees (cnt E []) (k + 1) = if cnt E [] ((k + 1 : Nat) : Int) = 0 then frees (cnt E []) k ++ [((k + 1 : Nat) : Int)] else frees (cnt E []) k) := rfl
      have HFL : Hid ((frees (cnt E []) k).length ≤ 64) := Nat.le_trans (frees_len _ _) (by omega)
      obtain ⟨T, hT⟩ : ∃ T, Hid (cnt E [] ((k + 1 : Nat) : Int) = T) := ⟨_, rfl⟩
      obtain ⟨K, hK⟩ : ∃ K : Nat, Hid (k + 1 = K) := ⟨_, rfl⟩
      have b0 : (0 : Int) ≤ (K : Int) := by omega
      have b1 : (K : Int) < 65 := by have := hK.out; omega
      rw [hT.out, hK.out] at HF
      rw [hT.out, hK.out] at cO
      rw [hK.out] at hlt1 hlt ⊢
      by_cases h0 : T = 0
      · have d0 : (T == 0) = true := by simp [h0]
        rw [if_pos h0] at HF
        clear h0
        go_wp2_with (at_builtin; refine Own.list_one rfl (.tmp 24) (.tmp 26) 30 rfl W.heap.size 3 i0 _ 8 Try.underlying30 hi hz0 hz1 hz2 rfl _ _ _ rfl _ _ _ rfl (HO.out.alloc _) (Own.cell_new _ _ _) rfl ?h1 ?h2 ?h3 ?_; (case h1 => have := HFL.out; unfold maxLen; omega); (case h2 => have := HFL.out; omega); (case h3 => simp; omega); intro v3' w2 hown2 hgrow2; have HW2 := Lib.hid ((HWr.out.alloc _).grown hgS hgrow2 (Own.own_block HO.out (Nat.le_refl _))); have HO2 := Lib.hid hown2; clear hown2 hgrow2)
        go_roundw
        case rel => exact ⟨K, hlt, by go_num, by rw [HF.out, List.map_append, List.length_append]; exact HO2.out, HW2⟩
        case measure => simp [intOf]; omega
      · have d0 : (T == 0) = false := beq_eq_false_iff_ne.2 h0
        rw [if_neg h0] at HF
        clear h0
        go_wp2
        go_roundw
        case rel => exact ⟨K, hlt, by go_num, by rw [HF.out]; exact HO, HWr⟩
        case measure => simp [intOf]; omega
    · have hke : n = k := by omega
      subst hke
      have hge : ¬ ((n + 1 : Nat) : Int) ≤ (n : Int) := by omega
      have HI : Hid ((ordG n E 0).length = 0 ∧ Inv n (ordG n E 0) (frees (cnt E []) n) (cnt E (ordG n E 0))) := ⟨rfl, inv_first n E⟩
      clear hlt
      go_wp2
      generalize frees (cnt E []) n = Q0 at *
      clear c0 hsz
      go_loopg [3, 4] n (fun gk v3 v4 wr => ∃ (j : Nat) (Q : List Int), gk + j = n ∧ Hid ((ordG n E j).length = j ∧ Inv n (ordG n E j) Q (cnt E (ordG n E j))) ∧ Hid (wr.ownsRow W.heap.size 3 1 v3 Q.length (Q.map (Value.int .i64))) ∧ Hid (wr.ownsRow W.heap.size 3 1 v4 (ordG n E j).length ((ordG n E j).map (Value.int .i64))) ∧ Hid (Own.Apart v3 v4) ∧ Hid (OrdW W g C (cnt E (ordG n E j)) wr))
      case atStart => exact ⟨0, Q0, by omega, HI, HO, World.ownsRow_nil _ _ _ _, Own.Apart.symm (.inl rfl), HWr⟩
      case round =>
        obtain ⟨G0, rfl⟩ : ∃ G0 : Nat, G0 = gk := ⟨_, rfl⟩
        obtain ⟨j, Q, hj, HJ, HO3, HO4, HAp, HWo⟩ := hrel
        by_cases hq : 0 < Q.length
        · obtain ⟨g3, cap3, e3, hg3, hl3⟩ := HO3.out.form hq
          rw [e3] at HO3 HAp ⊢
          clear e3
          have hpk := HJ.out.2.pick hq
          have hrg := HJ.out.2.range _ hpk.2
          have hql := HJ.out.2.len
          have HGO : Hid (pick n E (ordG n E j) ≠ 0) := by show _ ≠ _; rw [hpk.1]; omega
          have HPP := Lib.hid (pick_pos HGO.out)
          have HST := Lib.hid (inv_start HJ.out.2 hpk.2)
          have HOG := Lib.hid (ordG_go HGO.out)
          have HOK := Lib.hid (ordG_ok n E j)
          rw [hpk.1] at HOG HPP
          have hqi : (0 : Int) < (Q.length : Int) := by omega
          have HM : Hid (mnTo Q (Q.length - 1) ∈ Q) := hpk.2
          have hpl := hpk.1
          obtain ⟨X, hX⟩ : ∃ X : Nat, Hid (mnTo Q (Q.length - 1) = (X : Int)) := ⟨(mnTo Q (Q.length - 1)).toNat, by show _ = _; omega⟩
          have CM : Hid (∀ (w : World), Ints .i64 w (some ⟨g3, 0, none⟩) Q → _) := fun w hw => min_any (some ⟨g3, 0, none⟩) cap3 Q hq (by omega) w hw
          rw [hX.out] at HST HOG HPP HM hrg
          have CM2 : Hid (∀ (w : World), Ints .i64 w (some ⟨g3, 0, none⟩) Q → Calls Try.prog 26 #[.slice (some ⟨g3, 0, none⟩) Q.length cap3] w fun e w' => e = .returned (.int .i64 (X : Int)) ∧ w = w') := fun w hw => by have := CM.out w hw; rwa [hX.out] at this
          have hx1 : (0 : Int) ≤ (X : Int) := by omega
          have hx2 : (X : Int) < 65 := by omega
          have hx3 : X ≤ 64 := by omega
          have hx4 : 1 ≤ X := by omega
          have HQL : Hid (Q.length ≤ 64 ∧ j ≤ 64 ∧ (ordG n E j).length = j) := ⟨by omega, by omega, HJ.out.1⟩
          have h3ne : wr.heap.size ≠ g3 := by omega
          have CD : Hid (∀ (w : World), w.ownsRow W.heap.size 3 1 (.slice (some ⟨g3, 0, none⟩) Q.length cap3) Q.length (Q.map (Value.int .i64)) → w.cell? ⟨wr.heap.size, 0, none⟩ = some (.int .i64 (X : Int)) → _) := fun w h1 h2 => delete_any W.heap.size g3 cap3 Q (by omega) (X : Int) wr.heap.size w h1 h2 h3ne HM.out
          clear CM hpk hrg hpl hql hq
          have hr2 : isRow (131 + X) := by unfold isRow; omega
          obtain ⟨ua, uc, hCu, _, hub⟩ := HC.out.ints HWo.out hr2
          have HUL : Hid ((RF E (131 + X)).length ≤ 256) := Nat.le_trans (RF_len _ _) HN.out.2
          have HUS : Hid (∀ i, i < (RF E (131 + X)).length → ((1 ≤ (RF E (131 + X)).getD i 0 ∧ (RF E (131 + X)).getD i 0 ≤ (n : Int)) ∧ (RF E (131 + X)).getD i 0 ∉ ordG n E j ++ [(X : Int)])) := by
            intro i hi
            rw [RF_usr] at hi ⊢
            have hm := usrP_mem hi
            obtain ⟨e, he, e1⟩ := usrP_in hm
            refine ⟨by have := (HR.out e he).1; rw [e1] at this; exact this, usr_out HOK.out HPP.out.2.2.1 HPP.out.2.2.2 hm⟩
          rw [← RF_usr] at HST
          have HIU : Hid (∀ wx O, OrdW W g C O wx → Ints .i64 wx ua (RF E (131 + X))) := fun wx O ho => HC.out.ints2 ho hr2 hCu
          have HCR : Hid (∀ wx O, OrdW W g C O wx → wx.cell? ⟨g, 131 + X, none⟩ = some (.slice ua (RF E (131 + X)).length uc)) := fun wx O ho => by rw [← hCu]; exact HC.out.cellR ho hr2
          replace hCu := Lib.hid hCu
          replace hub := Lib.hid hub
          have HOL : Hid ((ordG n E j ++ [(X : Int)]).length = (ordG n E j).length + 1) := by show _ = _; rw [List.length_append]; rfl
          generalize RF E (131 + X) = us at *
          clear HOK HPP HM
          go_wp2_with (first
            | (go_at_call 26; ((with_reducible refine (CM2.out _ ?_).mono ?_); (exact (RowAt.of_own HO3.out).ints .i64 _ rfl); rintro e w1 ⟨rfl, rfl⟩))
            | (go_at_call 27; ((with_reducible refine (CD.out _ ?_ ?_).mono ?_); (exact Own.own_below HO3.out ((Below.refl _ _).alloc (Nat.le_refl _) _)); (exact Own.cell_new _ _ _); rintro e w1 ⟨rfl, HD⟩; have hcn := HD.out.2.cell (Own.cell_new _ _ _) (fun e => h3ne (by cases e; rfl)); have HW1 := Lib.hid ((HWo.out.alloc _).grown hgS HD.out.2 (fun k e => by cases e; exact hg3)); have HO41 := Lib.hid (Own.Apart.kept HAp.out.symm (HO4.out.alloc _) HD.out.2); have HO31 := Lib.hid HD.out.1; have hsz1 := HD.out.2.size; clear HD))
            | (at_builtin; refine Own.lies_one rfl (.tmp 36) (.tmp 38) 30 rfl W.heap.size 3 i0 _ 8 Try.underlying30 hi hz0 hz1 hz2 rfl _ _ _ rfl _ _ _ rfl (HO41.out.alloc _) (Own.cell_new _ _ _) rfl ?h1 ?h2 ?h3 (w1.heap.size + 1) (by simp) ?_; (case h1 => have := HQL.out; unfold maxLen; omega); (case h2 => have := HQL.out; omega); (case h3 => have := HW1.out.grow.size; simp; omega); intro g4 cap4 w2 hown4 hgrow4 hat4 hlt4; have hcn2 := hgrow4.cell ((World.cell?_alloc_lt _ _ _ (block_lt_of_cell hcn)).trans hcn) (fun e => by have := (HO4.out.lt _ e.symm).2; simp at this); have HW2 := Lib.hid ((HW1.out.alloc _).grown hgS hgrow4 (Own.own_block HO41.out (Nat.le_refl _))); have HO32 := Lib.hid (Own.Apart.kept (apart_len (m := (kp (X : Int) Q).length) (cap' := cap3) HAp.out) (HO31.out.alloc _) hgrow4); have HAp2 := Lib.hid (Own.Apart.right (v := .slice (some ⟨g3, 0, none⟩) (kp (X : Int) Q).length cap3) (n := (ordG n E j).length + 1) (cap := cap4) (apart_len HAp.out) hat4 (fun k e => Nat.lt_succ_of_lt (HO31.out.lt _ e).2)); have HO42 := Lib.hid hown4; clear hown4 hgrow4 hat4))
          have cR := HCR.out _ _ HW2.out
          go_quiet (fail)
          go_wp2
          have hgt : g < W.heap.size := hgS
          obtain ⟨out2, hout2⟩ : ∃ o2, Hid (ordG n E j ++ [(X : Int)] = o2) := ⟨_, rfl⟩
          rw [hout2.out] at HST HUS HOL HOG
          have HO43 : Hid (w2.ownsRow W.heap.size 3 1 (.slice (some ⟨g4, 0, none⟩) ((ordG n E j).length + 1) cap4) out2.length (out2.map (Value.int .i64))) := by
            have := HO42.out
            rw [← HOL.out, ← hout2.out, List.map_append, List.length_append]; exact this
          have HIV := Lib.hid HST.out.1
          have HW3 : Hid (OrdW W g C (opO E out2 us 0) (w2.drewN nq)) := (HW2.out.drewN nq).congr HST.out.2
          generalize (ordG n E j).length + 1 = m4 at *
          clear HST HW2 HO42 HO41 HO31 HW1 hcn hcn2 cR CM2 CD
          go_loopg [3, 47] us.length (fun gk v3 v47 wx => ∃ (i : Nat) (Q3 : List Int), Hid (gk + i = us.length) ∧ v47 = .int .i64 i ∧ Hid (Inv n out2 Q3 (opO E out2 us i)) ∧ Hid (wx.ownsRow W.heap.size 3 1 v3 Q3.length (Q3.map (Value.int .i64))) ∧ Hid (wx.ownsRow W.heap.size 3 1 (.slice (some ⟨g4, 0, none⟩) m4 cap4) out2.length (out2.map (Value.int .i64))) ∧ Hid (Own.Apart v3 (.slice (some ⟨g4, 0, none⟩) m4 cap4)) ∧ Hid (OrdW W g C (opO E out2 us i) wx))
          case atStart => exact ⟨0, _, (by show _ = _; omega), rfl, HIV, HO32, HO43, HAp2, HW3⟩
          case round =>
            obtain ⟨i, Q3, hi3, rfl, HI3, HP3, HP4, HPA, HWx⟩ := hrel
            by_cases hlt : i < us.length
            · have hg3 := hi3.out
              obtain ⟨Gn, hGn⟩ : ∃ Gn, Hid (gk = Gn + 1) := ⟨gk - 1, by show _ = _; omega⟩
              clear hg3
              obtain ⟨b, off, rfl, hb, hc⟩ := HIU.out _ _ HWx.out i hlt
              have hub2 := hub.out b off rfl
              have hi256 : (i : Int) < 256 := by have := HUL.out; omega
              have hui := HUS.out i hlt
              have HS3 := Lib.hid (inv_step hlt HI3.out hui.1.1 hui.1.2 hui.2)
              have HOS := Lib.hid (opO_step E out2 us i hlt)
              have h1 := HS3.out.1
              obtain ⟨Y, hY⟩ : ∃ Y : Nat, Hid (us.getD i 0 = (Y : Int)) := ⟨(us.getD i 0).toNat, by show _ = _; omega⟩
              rw [hY.out] at HS3 HOS hui hc h1
              have hlt1 : (i : Int) < (us.length : Int) := by omega
              have hi0 : (0 : Int) ≤ (i : Int) := by omega
              have hY0 : (0 : Int) ≤ (Y : Int) := by omega
              have hY1 : (Y : Int) < 65 := by omega
              have hY2 : Y ≤ 64 := by omega
              have cO := HC.out.cellO HWx.out Y hY2
              have fO := HWx.out.row.frozen (66 + Y)
              have hTm : opO E out2 us i (Y : Int) ≤ 256 + 256 := by
                have a1 : cnt E out2 (Y : Int) ≤ 256 := by
                  unfold cnt opn
                  have := List.length_filter_le (fun e : Int × Int => e.1 == (Y : Int) && !(out2.contains e.2)) E
                  have := HN.out.2
                  omega
                have a2 : (us.drop i).count (Y : Int) ≤ 256 := Nat.le_trans List.count_le_length (by rw [List.length_drop]; have := HUL.out; omega)
                unfold opO; omega
              have HQ3 : Hid (Q3.length ≤ 64) := Nat.le_trans HI3.out.len HN.out.1
              have HWn := Lib.hid (HWx.out.setO Y hY2)
              obtain ⟨T, hT⟩ : ∃ T, Hid (opO E out2 us i (Y : Int) = T) := ⟨_, rfl⟩
              rw [hT.out] at cO HS3 h1 hTm
              obtain ⟨T2, wT, hT2⟩ : ∃ A : Int, wrap64 (T - 1) = A ∧ Hid (A = T - 1) := ⟨T - 1, by unfold wrap64; omega, rfl⟩
              have wT3 : IntKind.i64.wrap (T - 1) = T2 := by rw [wrapEq]; exact wT
              rw [← hT2.out] at HS3
              have HOS2 : Hid (∀ x, opO E out2 us (i + 1) x = if x = (Y : Int) then T2 else opO E out2 us i x) := fun x => by
                rw [HOS.out x]
                by_cases e : x = (Y : Int)
                · rw [if_pos e, if_pos e, e, hT.out, hT2.out]
                · rw [if_neg e, if_neg e]
              have HWm : Hid (OrdW W g C (opO E out2 us (i + 1)) (wr.setCell ⟨g, 66 + Y, none⟩ (.int .i64 T2))) := (HWn.out T2).congr HOS2.out
              have HP3s : Hid ((wr.setCell ⟨g, 66 + Y, none⟩ (.int .i64 T2)).ownsRow W.heap.size 3 1 _ Q3.length (Q3.map (Value.int .i64))) := ownsRow_setCell_below HP3.out hgt _
              have HP4s : Hid ((wr.setCell ⟨g, 66 + Y, none⟩ (.int .i64 T2)).ownsRow W.heap.size 3 1 (.slice (some ⟨g4, 0, none⟩) m4 cap4) out2.length (out2.map (Value.int .i64))) := ownsRow_setCell_below HP4.out hgt _
              have hsz3 := HWm.out.grow.size
              clear hTm hui hb
              by_cases h0 : T2 = 0
              · have d0 : (T2 == 0) = true := by simp [h0]
                rw [if_pos h0] at HS3
                have HI4 := Lib.hid HS3.out.2
                clear h0
                go_wp2
                go_region
                go_wp2_with (at_builtin; go_must (refine Own.lies_one rfl (.tmp 68) (.tmp 70) 30 rfl W.heap.size 3 i0 _ 8 Try.underlying30 hi hz0 hz1 hz2 rfl _ _ _ rfl _ _ _ rfl ((HP3s.out.alloc _).drew) (show ((wr.setCell ⟨g, 66 + Y, none⟩ (.int .i64 T2)).alloc (.cells #[.int .i64 (Y : Int)] 3)).cell? _ = _ from cell_new2 _ _ _ _ _) rfl ?h1 ?h2 ?h3 (wr.heap.size + 1) (by simp) ?_; (case h1 => have := HQ3.out; unfold maxLen; omega); (case h2 => have := HQ3.out; omega); (case h3 => simp at hsz3; simp; omega); intro g5 cap5 w5 hown5 hgrow5 hat5 hlt5; have HW5 := Lib.hid (((HWm.out.alloc _).drew).grown hgt hgrow5 (Own.own_block HP3.out (Nat.le_refl _))); have HP45 := Lib.hid (Own.Apart.kept HPA.out.symm ((HP4s.out.alloc _).drew) hgrow5); have HPA5 := Lib.hid (HPA.out.left (n := Q3.length + 1) (cap := cap5) hat5 (fun k e => Nat.lt_succ_of_lt (HP4.out.lt _ e).2)); have HP35 := Lib.hid hown5; clear hown5 hgrow5))
                go_roundg Gn
                case rel => exact ⟨i + 1, Q3 ++ [(Y : Int)], (by have := hi3.out; have := hGn.out; show _ = _; omega), by go_num, HI4, by rw [List.map_append, List.length_append]; exact HP35, HP45, HPA5, HW5⟩
                case measure => have := hGn.out; omega
              · have d0 : (T2 == 0) = false := beq_eq_false_iff_ne.2 h0
                rw [if_neg h0] at HS3
                have HI4 := Lib.hid HS3.out.2
                clear h0
                go_wp2
                go_region
                go_wp2
                go_roundg Gn
                case rel => exact ⟨i + 1, Q3, (by have := hi3.out; have := hGn.out; show _ = _; omega), by go_num, HI4, HP3s, HP4s, HPA, HWm.out.drew⟩
                case measure => have := hGn.out; omega
            · have hie : i = us.length := by have := hi3.out; omega
              have hge3 : ¬ (i : Int) < (us.length : Int) := by omega
              have HI4 : Hid (Inv n (ordG n E (j + 1)) Q3 (cnt E (ordG n E (j + 1)))) := by
                show Inv _ _ _ _
                rw [HOG.out]
                have := HI3.out
                rw [hie] at this
                exact inv_congr this (fun x => (opO_end E out2 us x).symm)
              have HW4 : Hid (OrdW W g C (cnt E (ordG n E (j + 1))) wr) := by
                rw [HOG.out]
                have := HWx.out
                rw [hie] at this
                exact this.congr (fun x => (opO_end E out2 us x).symm)
              have HJ1 : Hid ((ordG n E (j + 1)).length = j + 1 ∧ j + 1 ≤ n) := by
                have e1 : (ordG n E (j + 1)).length = j + 1 := by rw [HOG.out, ← hout2.out, List.length_append, HQL.out.2.2]; rfl
                exact ⟨e1, by have := (ordG_ok n E (j + 1)).len; omega⟩
              clear hlt hie
              go_wp2
              go_roundg (G0 - 1)
              case measure => have := HJ1.out; omega
              case rel => exact ⟨j + 1, Q3, by have := HJ1.out; omega, ⟨HJ1.out.1, HI4.out⟩, HP3, by rw [HOG.out]; exact HP4, HPA, HW4⟩
        · have hq0 : Q.length = 0 := by omega
          obtain ⟨a3, c3, e3⟩ := own_slice HO3.out
          rw [e3, hq0]
          have HPN := Lib.hid (ord_stop HJ.out.1 (HJ.out.2.none hq0))
          have hqi : ¬ (0 : Int) < (Q.length : Int) := by omega
          clear e3 hq hq0
          go_wp2
          go_ret
          exact ⟨_, _, rfl, by rw [HPN.out]; exact HO4.out, HWo.out⟩
end Gra
end Go.Proofs.Ytjdkkldlghdojaa
