/- Texts put together: AsmX, AskD, AskE. -/
import Derived.Test.YtlhalhilnkneeaaGreatDoorM21
import Derived.Test.YtlhalhilnkneeaaGreatDoorM22
set_option linter.all false
section
set_option maxRecDepth 100000
namespace Go.Proofs.YtlhalhilnkneeaaGreatDoor
open Go.RowKit Go.Great Go.Sort Go.Maps
namespace Asm
open Go.Lib (decDigits itoa)
open Pen (bs)
open In (strVals Strs)
open Frm (rows)
open Rec (below2 below_al below_dN Stk Stks stkVals)
open Cat (Bx)
open Cmd (Gives Snum CmdIn fi fn nm place chkV Cok Lies Stand Eqv zeroC kindOf load_cmd store_cmd ret_cmd setRow_cmd GivesC setV stand_new)
/-- What a row of texts of one's own looks like. -/
theorem own_form {W : World} {B : Nat} {v : Value} {M : Nat} {F : List ByteArray} (h : W.ownsRow B 9 1 v F.length (strVals F)) (hM : F.length = M + 1) : ∃ b C, v = .slice (some ⟨b, 0, none⟩) (M + 1) (C + 1) ∧ M ≤ C ∧ B ≤ b ∧ b < W.heap.size ∧ ∀ k, k < M + 1 → W.cell? ⟨b, k, none⟩ = some (.string (F.getD k ByteArray.empty)) := by
  have hs := In.strs_of_own h
  obtain ⟨a, c, e, hs⟩ := hs
  rcases h.2 with ⟨rfl, h0⟩ | ⟨g, cap, cur, rfl, hB, hg, hcap, -⟩
  · omega
  · obtain ⟨C, rfl⟩ : ∃ C, cap = C + 1 := ⟨cap - 1, by omega⟩
    cases e
    refine ⟨g, C, by rw [hM], by omega, hB, (Array.getElem?_eq_some_iff.1 hg).1, fun k hk => ?_⟩
    obtain ⟨b, off, e, hb, hc⟩ := hs k (by omega)
    cases e
    simpa using hc
theorem after_set {w L W : World} {rb cb m : Nat} {c : CmdIn} {seen : List (List UInt8)} (h : PM w L W rb cb m c seen) (cs : Array Value) : (W.setRow cb cs).heap[rb]? = some (.cells zeroC.val 41 (0, 0)) ∧ Below w.heap.size w ((W.setRow cb cs).setRow rb zeroC.val) := by
  obtain ⟨n1, n2, n3, n4, n5, n6, n7, n8, n9⟩ := h.num
  have hl := h.le
  have hg := setRow_grown W cb cs
  have hb : Below w.heap.size w (W.setRow cb cs) := h.bel.grown hg (by omega) (fun k hk => by cases hk; exact n8)
  refine ⟨(hg.block rb (Array.getElem?_eq_some_iff.1 h.res).1 (fun e => n4 (Option.some.inj e))).trans h.res, ?_⟩
  have hs := hg.size
  exact hb.grown (setRow_grown _ rb _) (by omega) (fun k hk => by cases hk; exact n7)
set_option maxHeartbeats 8000000 in
theorem deskParse_any (l : List UInt8) (hl : l.length ≤ 1000000) (w : World) (hE : Env w) : Calls Tryz.prog 27 #[.string (bs l)] w (GivesP (parseO l) w) := by
  have hmm := @run_makeMap Tryz.prog
  have hz : (bs l).size = l.length := Pen.bs_size l
  have WD : Hid (∀ W, Calls Tryz.prog 50 #[.string (bs l)] W (GivesO (rows (wordsL l)) W)) := fun W => deskWords_own l hl W
  have KD : Hid (∀ k W, Calls Tryz.prog 51 #[.string k] W fun e w' => e = .returned (.int .i64 (kindOf k)) ∧ Below W.heap.size W w') := fun k W => Cmd.kind_any k W
  have CU : Hid (∀ (P : List UInt8), P.length ≤ 1000000 → ∀ W, Below w.heap.size w W → Calls Tryz.prog 52 #[.string (bs P), .string ⟨#[61]⟩] W fun e w' => e = .returned (.tuple #[.string (bs (cutS 61 P).1), .string (bs (cutS 61 P).2.1), .bool (cutS 61 P).2.2]) ∧ Below W.heap.size W w') := fun P hP W hb => cut_any P 61 hP W (hE.below hb)
  have FI : Hid (∀ (c : CmdIn) (a b : List UInt8), b.length ≤ 1000000 → c.gives.length ≤ 100 ∧ c.wants.length ≤ 100 → ∀ W, Below w.heap.size w W → Lies W c → Calls Tryz.prog 53 #[.agg c.val, .string (bs a), .string (bs b)] W (GivesF c (fieldV c a b) W)) := fun c a b hb hn W hB hL => deskField_any c a b hb W hL hn (hE.below hB)
  clear hE
  obtain ⟨O, hO⟩ : ∃ O, Hid (parseO l = O) := ⟨_, rfl⟩
  obtain ⟨WS, hWS⟩ : ∃ WS, Hid (wordsL l = WS) := ⟨_, rfl⟩
  rw [hWS.out] at WD
  rw [hO.out]
  have HZ0 : Hid ((w.alloc (.cells zeroC.val 41)).heap[w.heap.size]? = some (.cells zeroC.val 41 (0, 0))) := Own.heap_new _ _
  by_cases h1 : 1024 < l.length
  · have HR : Hid (O = none) := by show _ = _; rw [← hO.out]; exact parse_none1 (Or.inr h1)
    have g1 : (1024 : Int) < ((bs l).size : Int) := by omega
    go_enter Tryz.func27, Tryz.ntmps27
    go_wp2_with (first
      | (go_at_call 50; (with_reducible refine (WD.out _).mono ?_); rintro e w1 ⟨v1, rfl, HS1, HB1⟩; have HZ1 : Hid (w1.heap[w.heap.size]? = some (.cells zeroC.val 41 (0, 0))) := (HB1.out.block _ (Array.getElem?_eq_some_iff.1 HZ0.out).1).trans HZ0.out)
      | (refine wpList_buildTo rfl 41 _ rfl (some 22) rfl zeroC.val (by as_aux_lemma => kernel_rfl) ?_)
      | (refine store_cmd rfl (.tmp 2) (.tmp 22) rfl rfl w.heap.size zeroC zeroC rfl rfl HZ1.out ?_))
    try simp only [Exit.inBlock, Exit.then]
    refine bodyPost_ret (v := .tuple #[.agg zeroC.val, .int .i64 2]) (ret_cmd rfl _ _ w.heap.size zeroC _ rfl rfl (setRow_cmd _ HZ1.out)) rfl (GivesP.no HR.out ?_)
    exact (below2 (below_al (Below.refl w.heap.size w) _) HB1.out).grown (setRow_grown _ _ _) (by have := HB1.out.size; simp at this; omega) (fun k hk => by cases hk; exact Nat.le_refl _)
  · have g1 : ¬ (1024 : Int) < ((bs l).size : Int) := by omega
    cases hW : WS with
    | nil =>
      have HR : Hid (O = none) := by show _ = _; rw [← hO.out]; exact parse_none1 (Or.inl (by rw [hWS.out, hW]))
      rw [hW] at WD
      have WD0 : Hid (∀ W, Calls Tryz.prog 50 #[.string (bs l)] W fun e w' => ∃ a c, e = .returned (.slice a 0 c) ∧ Hid (Below W.heap.size W w')) := fun W => (WD.out W).mono fun e w' ⟨v, h1, h2, h3⟩ => by
        obtain ⟨a, c, e2, -⟩ := In.strs_of_own h2.out
        exact ⟨a, c, by rw [h1, e2]; rfl, h3⟩
      clear hW
      go_enter Tryz.func27, Tryz.ntmps27
      go_wp2_with (first
        | (go_at_call 50; (with_reducible refine (WD0.out _).mono ?_); rintro e w1 ⟨a1, c1, rfl, HB1⟩; have HZ1 : Hid (w1.heap[w.heap.size]? = some (.cells zeroC.val 41 (0, 0))) := (HB1.out.block _ (Array.getElem?_eq_some_iff.1 HZ0.out).1).trans HZ0.out)
        | (refine wpList_buildTo rfl 41 _ rfl (some 22) rfl zeroC.val (by as_aux_lemma => kernel_rfl) ?_)
        | (refine store_cmd rfl (.tmp 2) (.tmp 22) rfl rfl w.heap.size zeroC zeroC rfl rfl HZ1.out ?_))
      try simp only [Exit.inBlock, Exit.then]
      refine bodyPost_ret (v := .tuple #[.agg zeroC.val, .int .i64 2]) (ret_cmd rfl _ _ w.heap.size zeroC _ rfl rfl (setRow_cmd _ HZ1.out)) rfl (GivesP.no HR.out ?_)
      exact (below2 (below_al (Below.refl w.heap.size w) _) HB1.out).grown (setRow_grown _ _ _) (by have := HB1.out.size; simp at this; omega) (fun k hk => by cases hk; exact Nat.le_refl _)
    | cons k0 R =>
      obtain ⟨M, hM⟩ : ∃ M, Hid (R.length = M) := ⟨_, rfl⟩
      have hW1 : Hid (wordsL l = k0 :: R) := by show _ = _; rw [hWS.out, hW]
      obtain ⟨K, hK⟩ : ∃ K, Hid (kindOf (bs k0) = K) := ⟨_, rfl⟩
      have KD0 : Hid (∀ W, Calls Tryz.prog 51 #[.string (bs k0)] W fun e w' => e = .returned (.int .i64 K) ∧ Below W.heap.size W w') := fun W => by
        have := KD.out (bs k0) W
        rw [hK.out] at this
        exact this
      obtain ⟨N, hN⟩ : ∃ N, Hid (N = M + 1) := ⟨_, rfl⟩
      have WDF : Hid (∀ W, Calls Tryz.prog 50 #[.string (bs l)] W fun e w' => ∃ b C, e = .returned (.slice (some ⟨b, 0, none⟩) N (C + 1)) ∧ Hid (M ≤ C) ∧ W.heap.size ≤ b ∧ b < w'.heap.size ∧ Hid (∀ k, k < M + 1 → w'.cell? ⟨b, k, none⟩ = some (.string (bs ((k0 :: R).getD k [])))) ∧ Hid (Below W.heap.size W w')) := fun W => (WD.out W).mono fun e w' ⟨v, h1, h2, h3⟩ => by
        rw [hW] at h2
        obtain ⟨b, C, e2, f1, f2, f3, f4⟩ := own_form (M := M) h2.out (by rw [rows_len, ← hM.out]; rfl)
        exact ⟨b, C, by rw [h1, e2, hN.out], f1, f2, f3, fun k hk => by rw [f4 k hk, rows_getD], h3⟩
      have RL : Hid (∀ p ∈ R, p.length ≤ 1000000) := fun p hp => by
        have hp2 : p ∈ wordsL l := by rw [hW1.out]; exact List.mem_cons_of_mem _ hp
        have := splitL_mem 32 _ p (List.mem_filter.1 hp2).1
        omega
      have MB : M ≤ 1000001 := by
        have h1 : (wordsL l).length ≤ (splitL 32 l).length := List.length_filter_le _ _
        have h2 := List.count_le_length (a := (32 : UInt8)) (l := l)
        rw [splitL_len, hW1.out, List.length_cons, hM.out] at h1
        omega
      have hm1 : ¬ (N : Int) = 0 := by have := hN.out; omega
      have hmb : ((N : Int) == 0) = false := by have := hN.out; simp; omega
      have h0N : (0 : Int) < (N : Int) := by have := hN.out; omega
      clear hW
      go_enter Tryz.func27, Tryz.ntmps27
      go_upto_region 5 with (first
        | (go_at_call 50; (with_reducible refine (WDF.out _).mono ?_); rintro e w1 ⟨wb, C, rfl, HC1, hwb0, hwb, HS1, HB1⟩; have HZ1 : Hid (w1.heap[w.heap.size]? = some (.cells zeroC.val 41 (0, 0))) := (HB1.out.block _ (Array.getElem?_eq_some_iff.1 HZ0.out).1).trans HZ0.out; have hc0 := HS1.out 0 (Nat.succ_pos _); rw [show (k0 :: R).getD 0 [] = k0 from rfl] at hc0)
        | (go_at_call 51; (with_reducible refine (KD0.out _).mono ?_); rintro e w2 ⟨rfl, hb2⟩; have HB2 := Lib.hid hb2; have HZ2 : Hid ((w2.alloc (.cells zeroC.val 41)).heap[w2.heap.size]? = some (.cells zeroC.val 41 (0, 0))) := Own.heap_new _ _)
        | (refine wpList_buildTo rfl 41 _ rfl (some 27) rfl (bareK K).val (by as_aux_lemma => kernel_rfl) ?_)
        | (refine store_cmd rfl (.tmp 5) (.tmp 27) rfl rfl w2.heap.size (bareK K) zeroC rfl rfl HZ2.out ?_))
      refine Cmd.wp_named fun L0 hL => ?_
      have hL1 : L0 = (w2.alloc (.cells zeroC.val 41)).setRow w2.heap.size (bareK K).val := hL
      have HSL : Hid (Stand L0 w2.heap.size (bareK K)) := by
        rw [hL1]
        exact Cmd.stand_of_heap (setRow_cmd _ HZ2.out)
      have hgrow := setRow_grown (w2.alloc (.cells zeroC.val 41)) w2.heap.size (bareK K).val
      rw [← hL1] at hgrow
      have hb2L : Below w2.heap.size w2 L0 := (below_al (Below.refl w2.heap.size w2) _).grown hgrow (by simp) (fun k hk => by cases hk; exact Nat.le_refl _)
      have hLs : w2.heap.size < L0.heap.size := World.rowIs.lt HSL.out
      have hw12 := HB2.out.size
      have hw01 := HB1.out.size
      simp at hw01 hwb0
      have hZL : Hid (L0.heap[w.heap.size]? = some (.cells zeroC.val 41 (0, 0))) := (hb2L.block _ (by omega)).trans ((HB2.out.block _ (by omega)).trans HZ1.out)
      have HBL : Hid (Below w.heap.size w L0) := below2 (below2 (below2 (below_al (Below.refl w.heap.size w) _) HB1.out) HB2.out) hb2L
      have HSW : Hid (∀ k, k < M + 1 → L0.cell? ⟨wb, k, none⟩ = some (.string (bs ((k0 :: R).getD k [])))) := fun k hk => ((below2 HB2.out hb2L).cell (p := ⟨wb, k, none⟩) hwb).trans (HS1.out k hk)
      have c0 := HSL.out.three.1
      have hwbL : wb < L0.heap.size := by omega
      have hwc : wb ≠ w2.heap.size := by omega
      obtain ⟨cb, hcb⟩ : ∃ cb, Hid (w2.heap.size = cb) := ⟨_, rfl⟩
      obtain ⟨rb, hrb⟩ : ∃ rb, Hid (w.heap.size = rb) := ⟨_, rfl⟩
      have HNB : Hid (rb < L0.heap.size ∧ cb < L0.heap.size ∧ rb ≠ cb ∧ w.heap.size ≤ rb ∧ w.heap.size ≤ cb) := by
        have e1 := hcb.out
        have e2 := hrb.out
        show _ ∧ _
        omega
      rw [hcb.out] at c0 HSL hwc ⊢
      rw [hrb.out] at hZL ⊢
      have ec0 : (bareK K).kind = K := rfl
      rw [ec0] at c0
      by_cases hK0 : K = 0
      · have HR : Hid (O = none) := by show _ = _; rw [← hO.out]; exact parse_none2 hW1.out (by rw [hK.out]; exact hK0)
        have gk : (K == 0) = true := by simpa using hK0
        clear hL hL1 hgrow hb2L hK0
        go_wp2_with (first
          | (refine wpList_buildTo rfl 41 _ rfl (some 31) rfl zeroC.val (by as_aux_lemma => kernel_rfl) ?_)
          | (refine store_cmd rfl (.tmp 2) (.tmp 31) rfl rfl rb zeroC zeroC rfl rfl hZL.out ?_))
        try simp only [Exit.inBlock, Exit.then]
        refine bodyPost_ret (v := .tuple #[.agg zeroC.val, .int .i64 2]) (ret_cmd rfl _ _ rb zeroC _ rfl rfl (setRow_cmd _ hZL.out)) rfl (GivesP.no HR.out ?_)
        exact HBL.out.grown (setRow_grown _ _ _) HBL.out.size (fun k hk => by cases hk; exact HNB.out.2.2.2.1)
      · have gk : (K == 0) = false := by simpa using hK0
        have HO0 : Hid (O = fieldsV (bareK K) [] (R.drop 0)) := by
          show _ = _
          rw [← hO.out, parse_fields hW1.out h1 (by rw [hK.out]; exact hK0), hK.out]
          rfl
        clear hL hL1 hgrow hb2L hK0
        go_upto_region 8 with fail
        refine Cmd.wp_named fun L hL => ?_
        have hL1 : L = L0.alloc (.map #[] 0) := hL
        obtain ⟨m, hm⟩ : ∃ m, Hid (L0.heap.size = m) := ⟨_, rfl⟩
        have hwm : wb ≠ m := by have := hm.out; omega
        have HPS : Hid (PM w L L rb cb m (bareK K) []) := by
          have e := hm.out
          obtain ⟨n1, n2, n3, n4, n5⟩ := HNB.out
          have hb : Below L0.heap.size L0 L := by rw [hL1]; exact below_al (Below.refl _ _) _
          have hs : L.heap.size = L0.heap.size + 1 := by rw [hL1]; simp
          refine ⟨below2 HBL.out hb, Cat.Bx.refl _ _ _, HSL.out.below hb, (hb.block rb n1).trans hZL.out, ?_, ⟨fun i hi => absurd hi (Nat.not_lt_zero i), fun i hi => absurd hi (Nat.not_lt_zero i)⟩, fun x hx => (by rcases hx with h | h <;> cases h), ⟨Nat.zero_le _, Nat.zero_le _⟩, by omega⟩
          rw [← e, hL1]
          exact World.ownsMap_made _ _ _ _
        have HSX : Hid (∀ k, k < M + 1 → L.cell? ⟨wb, k, none⟩ = some (.string (bs ((k0 :: R).getD k [])))) := fun k hk => by
          rw [hL1]
          exact ((below_al (Below.refl L0.heap.size L0) (.map #[] 0)).cell (p := ⟨wb, k, none⟩) hwbL).trans (HSW.out k hk)
        have hwbX : wb < L.heap.size := by rw [hL1]; simp; omega
        rw [hm.out]
        clear hL hL1 hwbL
        go_upto_region 9 with (refine slice_tail rfl (.tmp 33) rfl wb M C N (C + 1) hN.out rfl rfl HC1.out ?_; intro off hoff; have HOFF := Lib.hid hoff; clear hoff)
        go_loopw [36] (fun i wr => ∃ (k : Nat) (c d : CmdIn) (seen : List (List UInt8)), k ≤ M ∧ i = .int .i64 (k : Int) ∧ Hid (PM w L wr rb cb m c seen) ∧ Hid (Eqv c d) ∧ Hid (seen.length = k) ∧ Hid (O = fieldsV d seen (R.drop k))) (fun i _ => M - (intOf i).toNat)
        case atStart => exact ⟨0, bareK K, bareK K, [], Nat.zero_le _, rfl, HPS.out, Eqv.refl _, rfl, HO0.out⟩
        case round =>
          obtain ⟨k, c, d, seen, hkN, rfl, HP, HE, HSN, HOF⟩ := hrel
          by_cases hlt : k < M
          · have dk : decide ((k : Int) < (M : Int)) = true := decide_eq_true (by omega)
            have hlt1 : (k : Int) < (M : Int) := by omega
            have hkR : k < R.length := by have := hM.out; omega
            have hPm : R.getD k [] ∈ R := by rw [List.getD_eq_getElem?_getD, List.getElem?_eq_getElem hkR]; exact List.getElem_mem _
            have hPl := RL.out _ hPm
            have hc : L.cell? ⟨wb, off + k, none⟩ = some (.string (bs (R.getD k []))) := by
              rw [HOFF.out (by omega), Nat.add_comm]
              exact HSX.out (k + 1) (by omega)
            have hcw : wr.cell? ⟨wb, off + k, none⟩ = some (.string (bs (R.getD k []))) := HP.out.bx.keep hwbX (by rintro (e | e) <;> omega) hc
            have hdr : R.drop k = R.getD k [] :: R.drop (k + 1) := by
              rw [List.drop_eq_getElem_cons hkR, List.getD_eq_getElem?_getD, List.getElem?_eq_getElem hkR]
              rfl
            have HOS : Hid (O = _) := HOF.out.trans (by rw [hdr, fieldsV_step])
            clear hdr hPm hc
            generalize R.getD k [] = P at *
            have CP := Lib.hid (CU.out P hPl)
            have cl := cutS_len 61 P
            generalize cutS 61 P = CS at *
            obtain ⟨a, b, ok⟩ := CS
            dsimp only at CP HOS cl
            have hal : a.length ≤ 1000000000 := by omega
            have hbl : b.length ≤ 1000000 := by omega
            cases ok with
            | false =>
              have HR : Hid (O = none) := by show _ = _; rw [HOS.out]; simp
              go_wp2_with (first
                | (go_at_call 52; (with_reducible refine (CP.out _ HP.out.bel).mono ?_); rintro e w3 ⟨rfl, hb3⟩; have HP3 := Lib.hid (HP.out.below hb3); clear hb3)
                | (refine wpList_buildTo rfl 41 _ rfl (some 53) rfl zeroC.val (by as_aux_lemma => kernel_rfl) ?_)
                | (refine store_cmd rfl (.tmp 2) (.tmp 53) rfl rfl rb zeroC zeroC rfl rfl HP3.out.res ?_))
              try simp only [Exit.inBlock, Exit.then]
              exact bodyPost_ret (v := .tuple #[.agg zeroC.val, .int .i64 2]) (ret_cmd rfl _ _ rb zeroC _ rfl rfl (setRow_cmd _ HP3.out.res)) rfl (GivesP.no HR.out HP3.out.no)
            | true =>
              by_cases hin : a ∈ seen
              · have IB : Hid (decide (a ∈ seen) = true) := decide_eq_true hin
                have HR : Hid (O = none) := by show _ = _; rw [HOS.out]; simp [hin]
                clear hin
                go_wp2_with (first
                | (go_at_call 52; (with_reducible refine (CP.out _ HP.out.bel).mono ?_); rintro e w3 ⟨rfl, hb3⟩; have HP3 := Lib.hid (HP.out.below hb3); clear hb3)
                | (refine wpl_unguard rfl ?_; refine lookup_seen rfl (.tmp 49) (.tmp 50) rfl m seen.length seen rfl HP3.out.own a rfl hal true IB.out ?_)
                | (refine wpList_buildTo rfl 41 _ rfl (some 53) rfl zeroC.val (by as_aux_lemma => kernel_rfl) ?_)
                | (refine store_cmd rfl (.tmp 2) (.tmp 53) rfl rfl rb zeroC zeroC rfl rfl HP3.out.res ?_))
                try simp only [Exit.inBlock, Exit.then]
                exact bodyPost_ret (v := .tuple #[.agg zeroC.val, .int .i64 2]) (ret_cmd rfl _ _ rb zeroC _ rfl rfl (setRow_cmd _ HP3.out.res)) rfl (GivesP.no HR.out HP3.out.no)
              · have IB : Hid (decide (a ∈ seen) = false) := decide_eq_false hin
                have HOT : Hid (O = match fieldV d a b with | none => none | some d' => fieldsV d' (seen ++ [a]) (R.drop (k + 1))) := by show _ = _; rw [HOS.out]; simp [hin]; cases fieldV d a b <;> rfl
                clear hin
                have hsl : seen.length < 10000000 := by have := HSN.out; omega
                have FD := Lib.hid (FI.out c a b hbl HP.out.len)
                obtain ⟨OC, hOC⟩ : ∃ x, Hid (fieldV c a b = x) := ⟨_, rfl⟩
                rw [hOC.out] at FD
                cases hx : OC with
                | none =>
                  rw [hx] at FD
                  have HR : Hid (O = none) := by
                    show _ = _
                    rcases fieldV_eqv HE.out a b with ⟨-, h⟩ | ⟨c1, d1, h1, -, -⟩
                    · rw [HOT.out, h]
                    · rw [hOC.out, hx] at h1; cases h1
                  clear hx
                  go_wp2_with (first
                  | (go_at_call 52; (with_reducible refine (CP.out _ HP.out.bel).mono ?_); rintro e w3 ⟨rfl, hb3⟩; have HP3 := Lib.hid (HP.out.below hb3); clear hb3)
                  | (refine wpl_unguard rfl ?_; refine lookup_seen rfl (.tmp 49) (.tmp 50) rfl m seen.length seen rfl HP3.out.own a rfl hal false IB.out ?_)
                  | (at_mapUpdate; refine update_seen rfl (.tmp 54) (.tmp 55) (.const (.bool true)) rfl m seen.length seen rfl hsl HP3.out.own a rfl hal rfl rfl ?_; intro w5 ho5 hg5; have HP5 := Lib.hid (HP3.out.upd ho5 hg5); clear ho5 hg5)
                  | (refine load_cmd rfl (.tmp 5) rfl cb rfl c HP5.out.box ?_)
                  | (go_at_call 53; (with_reducible refine (FD.out _ HP5.out.bel HP5.out.lies).mono ?_); rintro e w6 ⟨c6, rfl, HE6, HL6, HB6, HF6⟩; have HP6 := Lib.hid (HP5.out.below HB6.out); have HC6 := Lib.hid HP6.out.box.heap; obtain ⟨hz7, hb7⟩ := after_set HP6.out c6.val; have HZ7 := Lib.hid hz7; have HB7 := Lib.hid hb7; clear hz7 hb7)
                  | (refine store_cmd rfl (.tmp 5) (.tmp 61) rfl rfl cb c6 c rfl rfl HC6.out ?_)
                  | (refine wpList_buildTo rfl 41 _ rfl (some 65) rfl zeroC.val (by as_aux_lemma => kernel_rfl) ?_)
                  | (refine store_cmd rfl (.tmp 2) (.tmp 65) rfl rfl rb zeroC zeroC rfl rfl HZ7.out ?_))
                  try simp only [Exit.inBlock, Exit.then]
                  exact bodyPost_ret (v := .tuple #[.agg zeroC.val, .int .i64 2]) (ret_cmd rfl _ _ rb zeroC _ rfl rfl (setRow_cmd _ HZ7.out)) rfl (GivesP.no HR.out HB7.out)
                | some c1 =>
                  rw [hx] at FD
                  obtain ⟨d1, hd1, he1⟩ : ∃ d1, fieldV d a b = some d1 ∧ Eqv c1 d1 := by
                    rcases fieldV_eqv HE.out a b with ⟨h, -⟩ | ⟨c2, d2, h1, h2, h3⟩
                    · rw [hOC.out, hx] at h; cases h
                    · rw [hOC.out, hx] at h1; cases h1; exact ⟨d2, h2, h3⟩
                  have HON : Hid (O = fieldsV d1 (seen ++ [a]) (R.drop (k + 1))) := by show _ = _; rw [HOT.out, hd1]
                  have HFW := Lib.hid (fieldV_few (hOC.out.trans hx) HP.out.len)
                  have HE1 := Lib.hid he1
                  have HSN2 : Hid ((seen ++ [a]).length = k + 1) := by show _ = _; rw [List.length_append, HSN.out]; rfl
                  clear hx hd1 he1
                  go_wp2_with (first
                  | (go_at_call 52; (with_reducible refine (CP.out _ HP.out.bel).mono ?_); rintro e w3 ⟨rfl, hb3⟩; have HP3 := Lib.hid (HP.out.below hb3); clear hb3)
                  | (refine wpl_unguard rfl ?_; refine lookup_seen rfl (.tmp 49) (.tmp 50) rfl m seen.length seen rfl HP3.out.own a rfl hal false IB.out ?_)
                  | (at_mapUpdate; refine update_seen rfl (.tmp 54) (.tmp 55) (.const (.bool true)) rfl m seen.length seen rfl hsl HP3.out.own a rfl hal rfl rfl ?_; intro w5 ho5 hg5; have HP5 := Lib.hid (HP3.out.upd ho5 hg5); clear ho5 hg5)
                  | (refine load_cmd rfl (.tmp 5) rfl cb rfl c HP5.out.box ?_)
                  | (go_at_call 53; (with_reducible refine (FD.out _ HP5.out.bel HP5.out.lies).mono ?_); rintro e w6 ⟨c6, rfl, HE6, HL6, HB6, HF6⟩; have HP6 := Lib.hid (HP5.out.below HB6.out); have HC6 := Lib.hid HP6.out.box.heap)
                  | (refine store_cmd rfl (.tmp 5) (.tmp 61) rfl rfl cb c6 c rfl rfl HC6.out ?_))
                  have HEQ6 := Lib.hid (HE6.out c1 rfl)
                  have HPN : Hid (PM w L (w6.setRow cb c6.val) rb cb m c6 (seen ++ [a])) := by
                    have hq := HEQ6.out
                    obtain ⟨f1, f2⟩ := HF6.out rfl
                    have h2 := HP5.out.num
                    have h3 := HP5.out.le
                    have hfar := HP5.out.far
                    have fresh : ∀ x : Addr, w5.heap.size ≤ x.block → x.block ≠ m ∧ x.block ≠ cb ∧ x.block ≠ rb ∧ w.heap.size ≤ x.block := fun x hx => by omega
                    refine HP6.out.set (HL6.out rfl) (fun x hx => ?_) (Cmd.stand_of_heap (setRow_cmd _ HC6.out)) ?_ (setRow_grown _ _ _)
                    · rcases hx with e | e
                      · rcases f1 x e with e2 | e2
                        · exact hfar x (Or.inl e2)
                        · exact fresh x e2
                      · rcases f2 x e with e2 | e2
                        · exact hfar x (Or.inr e2)
                        · exact fresh x e2
                    · rw [hq.gives, hq.wants]; exact HFW.out
                  have HEN : Hid (Eqv c6 d1) := Eqv.trans HEQ6.out HE1.out
                  go_roundw
                  case rel => exact ⟨k + 1, c6, d1, seen ++ [a], by omega, by go_num, HPN, HEN, HSN2, HON⟩
                  case measure => simp [intOf]; omega
          · have dk : decide ((k : Int) < (M : Int)) = false := decide_eq_false (by omega)
            have hlt1 : ¬ (k : Int) < (M : Int) := by omega
            have HR : Hid (O = some d) := by
              show _ = _
              rw [HOF.out, List.drop_eq_nil_of_le (by have := hM.out; omega)]
              rfl
            go_wp2_with (first
              | (refine load_cmd rfl (.tmp 5) rfl cb rfl c HP.out.box ?_)
              | (refine store_cmd rfl (.tmp 2) (.tmp 67) rfl rfl rb c zeroC rfl rfl HP.out.res ?_))
            try simp only [Exit.inBlock, Exit.then]
            exact bodyPost_ret (v := .tuple #[.agg c.val, .int .i64 0]) (ret_cmd rfl _ _ rb c _ rfl rfl (setRow_cmd _ HP.out.res)) rfl (HP.out.yes HR.out HE.out)
end Asm
end Go.Proofs.YtlhalhilnkneeaaGreatDoor
end
section
set_option maxRecDepth 100000
namespace Go.Proofs.YtlhalhilnkneeaaGreatDoor
open Go.RowKit Go.Great Go.Sort
namespace Asm
open Pen (bs)
open In (strVals Strs)
open Frm (rows)
open Rec (below2 below_al below_dN Stk Stks stkVals)
open Cmd (Gives Snum CmdIn fi fn nm place chkV Cok Lies Stand Eqv zeroC kindOf load_cmd store_cmd ret_cmd setRow_cmd GivesC setV stand_new val_get size_val)
/-- What is left of a line. -/
def lft (l : List UInt8) : List UInt8 := l.dropWhile (· == 32)
theorem skip_lft (l : List UInt8) : skip l = match lft l with
    | [] => true
    | x :: _ => x == 35 := rfl
theorem trim_any (l : List UInt8) (W : World) : Calls Tryz.prog 25 #[.string (bs l), .string ⟨#[32]⟩] W fun e w' => e = .returned (.string (bs (lft l))) ∧ W = w' :=
  (Tryz.strings_TrimLeft_one (bs l) 32 (by decide) W).mono fun e w' ⟨h1, h2⟩ => ⟨h1, h2.symm⟩
theorem prefix_any (x : UInt8) (l : List UInt8) (W : World) : Calls Tryz.prog 26 #[.string (bs (x :: l)), .string ⟨#[35]⟩] W fun e w' => e = .returned (.bool (x == 35)) ∧ W = w' :=
  (Tryz.strings_HasPrefix (bs (x :: l)) (bs [35]) W).mono fun e w' ⟨h1, h2⟩ => ⟨by
    rw [h1]
    have : Lib.hasPrefix (bs (x :: l)).data.toList (bs [35]).data.toList = (x == 35) := by
      show ((35 : UInt8) == x && true) = (x == 35)
      rw [Bool.and_true]
      exact Bool.eq_iff_iff.2 ⟨fun h => beq_iff_eq.2 (beq_iff_eq.1 h).symm, fun h => beq_iff_eq.2 (beq_iff_eq.1 h).symm⟩
    rw [this], h2.symm⟩
set_option maxHeartbeats 8000000 in
theorem script_any (t : List UInt8) (hs : t.length ≤ 1000000) (w : World) (hE : Env w) : Calls Tryz.prog 8 #[.string (bs t)] w (GivesS (scriptV t) w) := by
  have hlen : (bs t).size = t.length := Pen.bs_size t
  by_cases h1 : 65536 < t.length
  · have g1 : (65536 : Int) < ((bs t).size : Int) := by omega
    have hV : scriptV t = ([], 0, 1) := by unfold scriptV; rw [if_pos h1]
    rw [hV]
    clear hE
    go_enter Tryz.func8, Tryz.ntmps8
    go_wp2
    go_ret3
    exact ⟨_, [], rfl, OC.nil _ _, trivial, Below.refl _ _⟩
  · have g1 : ¬ (65536 : Int) < ((bs t).size : Int) := by omega
    have SP : Hid (Calls Tryz.prog 24 #[.string (bs t), .string ⟨#[10]⟩] w (Gives (rows (splitL 10 t)) w)) := split_any t 10 hs w hE
    obtain ⟨LN, hLN⟩ : ∃ LN, Hid (splitL 10 t = LN) := ⟨_, rfl⟩
    have hV : Hid (scriptV t = scriptTo 0 [] LN) := by show _ = _; unfold scriptV; rw [if_neg h1, hLN.out]
    obtain ⟨O, hO⟩ : ∃ O, Hid (scriptV t = O) := ⟨_, rfl⟩
    rw [hO.out] at hV
    rw [hO.out]
    rw [hLN.out] at SP
    obtain ⟨N, hN⟩ : ∃ N, Hid ((rows LN).length = N) := ⟨_, rfl⟩
    have hN2 : Hid (LN.length = N) := by rw [← hN.out]; exact (rows_len LN).symm
    have hNb : N ≤ 65537 := by
      have h2 := List.count_le_length (a := (10 : UInt8)) (l := t)
      have h3 := splitL_len 10 t
      rw [hLN.out, hN2.out] at h3
      omega
    have LB : Hid (∀ p ∈ LN, p.length ≤ 1000000) := fun p hp => by
      have := splitL_mem 10 t p (by rw [hLN.out]; exact hp)
      omega
    have PA : Hid (∀ (l : List UInt8), l.length ≤ 1000000 → ∀ W, Below w.heap.size w W → Calls Tryz.prog 27 #[.string (bs l)] W (GivesP (parseO l) W)) := fun l hl W hb => deskParse_any l hl W (hE.below hb)
    clear hs h1 hlen hE
    go_enter Tryz.func8, Tryz.ntmps8
    go_wp2_with (go_at_call 24; (with_reducible refine SP.out.mono ?_); rintro e w1 ⟨la, lc, rfl, HS1, HB1, -⟩; rw [hN.out])
    go_loopw [5, 17] (fun v i wr => ∃ (k : Nat) (l m : List CmdIn), k ≤ N ∧ i = .int .i64 (k : Int) ∧ Hid (LS w1.heap.size w1 wr v l) ∧ Hid (EqvL l m) ∧ Hid (O = scriptTo k m (LN.drop k)) ∧ Hid (m.length ≤ 4096)) (fun _ i _ => N - (intOf i).toNat)
    case atStart => exact ⟨0, [], [], Nat.zero_le _, rfl, LS.nil w1, trivial, hV.out, Nat.zero_le _⟩
    case round =>
      obtain ⟨k, l, m, hkN, rfl, HL, HE, HO, HM⟩ := hrel
      have HLL : Hid (l.length = m.length) := HE.out.length
      by_cases hlt : k < N
      · have dk : decide ((k : Int) < (N : Int)) = true := decide_eq_true (by omega)
        have hlt1 : (k : Int) < (N : Int) := by omega
        have hkL : k < LN.length := by rw [hN2.out]; exact hlt
        have hPm : LN.getD k [] ∈ LN := by rw [List.getD_eq_getElem?_getD, List.getElem?_eq_getElem hkL]; exact List.getElem_mem _
        have hPl := LB.out _ hPm
        obtain ⟨b0, off0, rfl, hb0, hc⟩ := HS1.out k (by rw [hN.out]; exact hlt)
        rw [rows_getD] at hc
        have hcw : wr.cell? ⟨b0, off0 + k, none⟩ = some (.string (bs (LN.getD k []))) := (HL.out.bel.cell (p := ⟨b0, off0 + k, none⟩) hb0).trans hc
        have HOS : Hid (O = _) := HO.out.trans (by rw [lines_drop hkL, scriptTo])
        have HWR : Hid (Below w.heap.size w wr) := below2 HB1.out HL.out.bel
        clear hPm hc HO
        generalize LN.getD k [] = P at *
        have TL := Lib.hid (trim_any P)
        have PP := Lib.hid (PA.out P hPl)
        rw [skip_lft] at HOS
        cases hw : lft P with
        | nil =>
          rw [hw] at HOS TL
          have HON : Hid (O = scriptTo (k + 1) m (LN.drop (k + 1))) := by show _ = _; rw [HOS.out]; rfl
          have hne : (bs ([] : List UInt8)).toList.isEmpty = true := by rw [bs_toList]; rfl
          clear hw HOS
          go_wp2_with (go_at_call 25; (with_reducible refine (TL.out _).mono ?_); rintro e w2 ⟨rfl, rfl⟩)
          go_roundw
          case rel => exact ⟨k + 1, l, m, by omega, by go_num, HL, HE, HON, HM⟩
          case measure => simp [intOf]; omega
        | cons x0 t0 =>
          rw [hw] at HOS TL
          have hne : (bs (x0 :: t0)).toList.isEmpty = false := by rw [bs_toList]; rfl
          have PX := Lib.hid (prefix_any x0 t0)
          clear hw
          by_cases h35 : x0 = 35
          · have HON : Hid (O = scriptTo (k + 1) m (LN.drop (k + 1))) := by show _ = _; rw [HOS.out, h35]; rfl
            have PX1 : Hid (∀ W, Calls Tryz.prog 26 #[.string (bs (x0 :: t0)), .string ⟨#[35]⟩] W fun e w' => e = .returned (.bool true) ∧ W = w') := by
              have := PX.out
              rw [h35] at this ⊢
              exact this
            clear HOS PX h35
            go_wp2_with (first
              | (go_at_call 25; (with_reducible refine (TL.out _).mono ?_); rintro e w2 ⟨rfl, rfl⟩)
              | (go_at_call 26; (with_reducible refine (PX1.out _).mono ?_); rintro e w3 ⟨rfl, rfl⟩))
            go_roundw
            case rel => exact ⟨k + 1, l, m, by omega, by go_num, HL, HE, HON, HM⟩
            case measure => simp [intOf]; omega
          · have hsk : (x0 == 35) = false := by simp [h35]
            have HOT : Hid (O = match parseO P with
              | none => ([], (k : Int) + 1, 2)
              | some c => if 4096 ≤ m.length then ([], (k : Int) + 1, 4) else scriptTo (k + 1) (m ++ [c]) (LN.drop (k + 1))) := by
              show _ = _
              rw [HOS.out]
              show (if (x0 == 35) = true then _ else _) = _
              rw [hsk, if_neg (by decide)]
              cases parseO P <;> rfl
            have PX1 : Hid (∀ W, Calls Tryz.prog 26 #[.string (bs (x0 :: t0)), .string ⟨#[35]⟩] W fun e w' => e = .returned (.bool false) ∧ W = w') := by
              have := PX.out
              rw [hsk] at this
              exact this
            obtain ⟨va, vc, rfl, -⟩ := HL.out.oc.cmds
            clear hsk HOS PX h35
            cases hop : parseO P with
            | none =>
              rw [hop] at HOT PP
              have HR : Hid (O = ([], (k : Int) + 1, 2)) := HOT.out
              have PN : Hid (∀ W, Below w.heap.size w W → Calls Tryz.prog 27 #[.string (bs P)] W fun e w' => ∃ c', e = .returned (.tuple #[.agg (CmdIn.val c'), .int .i64 2]) ∧ Hid (Below W.heap.size W w')) := fun W hb => (PP.out W hb).mono fun _ _ h => h.none_
              clear hop
              go_wp2_with (first
                | (go_at_call 25; (with_reducible refine (TL.out _).mono ?_); rintro e w2 ⟨rfl, rfl⟩)
                | (go_at_call 26; (with_reducible refine (PX1.out _).mono ?_); rintro e w3 ⟨rfl, rfl⟩)
                | (go_at_call 27; (with_reducible refine (PN.out _ HWR.out).mono ?_); rintro e w3 ⟨c3, rfl, HB3⟩; have HZ3 : Hid ((w3.alloc (.cells zeroC.val 41)).heap[w3.heap.size]? = some (.cells zeroC.val 41 (0, 0))) := Own.heap_new _ _)
                | (refine store_cmd rfl (.tmp 9) (.tmp 33) rfl rfl w3.heap.size c3 zeroC rfl rfl HZ3.out ?_))
              go_ret3
              refine ⟨_, [], by rw [HR.out]; go_num, OC.nil _ _, by rw [HR.out]; exact trivial, ?_⟩
              exact below2 HB1.out ((HL.out.below (below2 HB3.out (box_new w3 c3).2)).bel)
            | some d =>
              rw [hop] at HOT PP
              have PY : Hid (∀ W, Below w.heap.size w W → Calls Tryz.prog 27 #[.string (bs P)] W fun e w' => ∃ c', e = .returned (.tuple #[.agg (CmdIn.val c'), .int .i64 0]) ∧ Hid (Eqv c' d) ∧ Hid (Lies w' c') ∧ Hid (Below W.heap.size W w') ∧ Hid (∀ x, At c' x → W.heap.size ≤ x.block)) := fun W hb => (PP.out W hb).mono fun _ _ h => h.some_
              have HOU : Hid (O = if 4096 ≤ m.length then ([], (k : Int) + 1, 4) else scriptTo (k + 1) (m ++ [d]) (LN.drop (k + 1))) := HOT.out
              clear hop HOT PP
              by_cases hfull : 4096 ≤ l.length
              · have g4 : (4096 : Int) ≤ (l.length : Int) := by omega
                have HR : Hid (O = ([], (k : Int) + 1, 4)) := HOU.out.trans (if_pos (by have := HLL.out; omega))
                go_wp2_with (first
                  | (go_at_call 25; (with_reducible refine (TL.out _).mono ?_); rintro e w2 ⟨rfl, rfl⟩)
                  | (go_at_call 26; (with_reducible refine (PX1.out _).mono ?_); rintro e w3 ⟨rfl, rfl⟩)
                  | (go_at_call 27; (with_reducible refine (PY.out _ HWR.out).mono ?_); rintro e w3 ⟨c3, rfl, HE3, HL3, HB3, HF3⟩; have HZ3 : Hid ((w3.alloc (.cells zeroC.val 41)).heap[w3.heap.size]? = some (.cells zeroC.val 41 (0, 0))) := Own.heap_new _ _)
                  | (refine store_cmd rfl (.tmp 9) (.tmp 33) rfl rfl w3.heap.size c3 zeroC rfl rfl HZ3.out ?_))
                go_ret3
                refine ⟨_, [], by rw [HR.out]; go_num, OC.nil _ _, by rw [HR.out]; exact trivial, ?_⟩
                exact below2 HB1.out ((HL.out.below (below2 HB3.out (box_new w3 c3).2)).bel)
              · have g4 : ¬ (4096 : Int) ≤ (l.length : Int) := by omega
                have HON : Hid (O = scriptTo (k + 1) (m ++ [d]) (LN.drop (k + 1))) := HOU.out.trans (if_neg (by have := HLL.out; omega))
                have hl7 : l.length ≤ 10000000 := by omega
                have HM2 : Hid ((m ++ [d]).length ≤ 4096) := by show _ ≤ _; rw [List.length_append]; simp only [List.length_cons, List.length_nil]; have := HLL.out; omega
                go_upto_region 10 with (first
                  | (go_at_call 25; (with_reducible refine (TL.out _).mono ?_); rintro e w2 ⟨rfl, rfl⟩)
                  | (go_at_call 26; (with_reducible refine (PX1.out _).mono ?_); rintro e w3 ⟨rfl, rfl⟩)
                  | (go_at_call 27; (with_reducible refine (PY.out _ HWR.out).mono ?_); rintro e w3 ⟨c3, rfl, HE3, HL3, HB3, HF3⟩; have HZ3 : Hid ((w3.alloc (.cells zeroC.val 41)).heap[w3.heap.size]? = some (.cells zeroC.val 41 (0, 0))) := Own.heap_new _ _)
                  | (refine store_cmd rfl (.tmp 9) (.tmp 33) rfl rfl w3.heap.size c3 zeroC rfl rfl HZ3.out ?_))
                refine Cmd.wp_named fun V hV => ?_
                have hV1 : V = (w3.alloc (.cells zeroC.val 41)).setRow w3.heap.size c3.val := hV
                obtain ⟨hs3, hb3⟩ := box_new w3 c3
                rw [← hV1] at hs3 hb3
                obtain ⟨g9, hg9⟩ : ∃ g, Hid (w3.heap.size = g) := ⟨_, rfl⟩
                rw [hg9.out] at hs3 ⊢
                obtain ⟨gV, hgV⟩ : ∃ g, V.heap.size = g := ⟨_, rfl⟩
                have HBV : Hid (Below wr.heap.size wr V) := below2 HB3.out hb3
                obtain ⟨q1, q2, q3, q4, q5⟩ := HL.out.step HBV.out (HL3.out.below hb3) HF3.out
                rw [hgV] at q2
                have HS3 := Lib.hid hs3
                have Q1 := Lib.hid q1
                have Q2 := Lib.hid q2
                have Q3 := Lib.hid q3
                have Q4 := Lib.hid q4
                have Q5 := Lib.hid q5
                clear hV hV1 hb3 hs3 q1 q2 q3 q4 q5
                go_wp2_with (first
                  | (refine load_cmd rfl (.tmp 9) rfl g9 rfl c3 HS3.out ?_)
                  | (refine build_cmd rfl (.tmp 48) rfl c3 rfl gV hgV ?_)
                  | (at_builtin; refine list_cmd1 rfl (.tmp 47) (.tmp 49) rfl w1.heap.size (.slice va l.length vc) l rfl gV 1 c3 rfl Q1.out Q2.out Q3.out Q4.out hl7 Q5.out ?_; intro g4 cap4 w4 hoc4 hgr4))
                have HLN : Hid (LS w1.heap.size w1 w4 (.slice (some ⟨g4, 0, none⟩) (l.length + 1) cap4) (l ++ [c3])) := HL.out.next HBV.out hoc4 hgr4
                have HEN : Hid (EqvL (l ++ [c3]) (m ++ [d])) := EqvL.append HE.out ⟨HE3.out, trivial⟩
                clear hoc4 hgr4
                go_roundw
                case rel => exact ⟨k + 1, l ++ [c3], m ++ [d], by omega, by go_num, HLN, HEN, HON, HM2⟩
                case measure => simp [intOf]; omega
      · have dk : decide ((k : Int) < (N : Int)) = false := decide_eq_false (by omega)
        have hlt1 : ¬ (k : Int) < (N : Int) := by omega
        have HR : Hid (O = (m, 0, 0)) := by
          show _ = _
          rw [HO.out, List.drop_eq_nil_of_le (by have := hN2.out; omega)]
          rfl
        go_wp2
        go_ret3
        refine ⟨_, l, by rw [HR.out]; rfl, HL.out.oc.base HB1.out.size, by rw [HR.out]; exact HE.out, below2 HB1.out ?_⟩
        exact HL.out.bel
end Asm
end Go.Proofs.YtlhalhilnkneeaaGreatDoor
end
section
set_option maxRecDepth 100000
namespace Go.Proofs.YtlhalhilnkneeaaGreatDoor
open Go.RowKit Go.Great Go.Sort
namespace Asm
open Pen (bs)
open In (strVals Strs)
open Frm (rows)
open Rec (below2 below_al below_dN Stk Stks stkVals)
open Cmd (Gives Snum CmdIn fi fn nm place chkV Cok Lies Stand Eqv zeroC kindOf load_cmd store_cmd ret_cmd setRow_cmd GivesC setV stand_new val_get size_val cmdB putV)
/-- Texts of commands, or none. -/
def ToldRes (F : CmdIn → ByteArray) (l : List CmdIn) (w : World) (e : Ending) (w' : World) : Prop := (((4096 < l.length ∨ bad l = true) ∧ e = .returned (.tuple #[.slice none 0 0, .int .i64 1])) ∨ (l.length ≤ 4096 ∧ bad l = false ∧ ∃ v, e = .returned (.tuple #[v, .int .i64 0]) ∧ Hid (w'.ownsRow w.heap.size 9 1 v l.length (strVals (l.map F))))) ∧ Hid (Below w.heap.size w w')
def lineB (c : CmdIn) : ByteArray := bs (lineT c)
theorem maps_next (F : CmdIn → ByteArray) (l : List CmdIn) (k : Nat) (h : k < l.length) : (l.take (k + 1)).map F = (l.take k).map F ++ [F (l.getD k zeroC)] := by
  rw [take_next l k h, List.map_append]
  rfl
set_option maxHeartbeats 4000000 in
theorem toldLine_any (a : Option Addr) (cap : Nat) (l : List CmdIn) (n : Nat) (hn : l.length = n) (hk : Okl l) (w : World) (ha : Cmds w a l) (hE : Env w) : Calls Tryz.prog 32 #[.slice a n cap, .func (.func 33) #[] #[]] w (ToldRes lineB l w) := by
  have HN := Lib.hid hn
  obtain ⟨i0, hi, hz0, hz1, hz2⟩ := info_parts Frm.sinfo
  by_cases h1 : 4096 < n
  · have g1 : (4096 : Int) < (n : Int) := by omega
    clear hE
    go_enter Tryz.func32, Tryz.ntmps32
    go_wp2
    go_ret2
    exact ⟨Or.inl ⟨Or.inl (by rw [HN.out]; exact h1), rfl⟩, Below.refl _ _⟩
  · have g1 : ¬ (4096 : Int) < (n : Int) := by omega
    have HA := Lib.hid ha
    have HK := Lib.hid hk
    have LI : Hid (∀ (c : CmdIn) W, Below w.heap.size w W → Lies W c → Cok c → Calls Tryz.prog 33 #[.agg c.val] W fun e w' => e = .returned (.tuple #[.string (bs (lineV c).1), .int .i64 (lineV c).2]) ∧ Below W.heap.size W w') := fun c W hb hl hc => deskLine_any c W hl hc (hE.below hb)
    clear hn ha hk hE
    go_enter Tryz.func32, Tryz.ntmps32
    go_wp2
    go_loopw [6, 16] (fun v i wr => ∃ k : Nat, k ≤ n ∧ i = .int .i64 (k : Int) ∧ Hid (wr.ownsRow w.heap.size 9 1 v k (strVals ((l.take k).map lineB))) ∧ Hid (bad (l.take k) = false) ∧ Hid (Below w.heap.size w wr)) (fun _ i _ => n - (intOf i).toNat)
    case atStart => exact ⟨0, Nat.zero_le _, rfl, World.ownsRow_nil _ _ _ _, Lib.hid rfl, Below.refl _ _⟩
    case round =>
      obtain ⟨k, hkN, rfl, HO, HBd, HB⟩ := hrel
      by_cases hlt : k < n
      · have dk : decide ((k : Int) < (n : Int)) = true := decide_eq_true (by omega)
        have hlt1 : (k : Int) < (n : Int) := by omega
        have hkl : k < l.length := by rw [HN.out]; exact hlt
        obtain ⟨b, off, rfl, hb, hr, hl⟩ := (Cmds.below HA.out HB.out) k hkl
        have HR := Lib.hid hr
        have HLi := Lib.hid hl
        have HCk := Lib.hid (HK.out _ (getD_in hkl)).1
        have HTN := Lib.hid (maps_next lineB l k hkl)
        have HBN := Lib.hid (fun h => bad_next hkl HBd.out h)
        have HBY := Lib.hid (fun h => bad_yes (l := l) hkl h)
        clear hr hl
        generalize l.getD k zeroC = c at *
        have LC := Lib.hid (fun W hb hl => LI.out c W hb hl HCk.out)
        have HZ : Hid ((wr.alloc (.cells zeroC.val 41)).heap[wr.heap.size]? = some (.cells zeroC.val 41 (0, 0))) := Own.heap_new _ _
        have HV : Hid (chkV c = 0 → lineV c = (lineT c, 0)) := fun hc => by show _ = _; unfold lineV; rw [if_pos hc]
        have HW : Hid (chkV c ≠ 0 → lineV c = ([], 1)) := fun hc => by show _ = _; unfold lineV; rw [if_neg hc]
        go_upto_region 7 with (first
          | (refine load_at rfl (.tmp 18) rfl _ _ rfl c HR.out ?_)
          | (refine store_cmd rfl (.tmp 8) (.tmp 19) rfl rfl wr.heap.size c zeroC rfl rfl HZ.out ?_))
        refine Cmd.wp_named fun V hV => ?_
        have hV1 : V = (wr.alloc (.cells zeroC.val 41)).setRow wr.heap.size c.val := hV
        obtain ⟨hs3, hb3⟩ := box_new wr c
        rw [← hV1] at hs3 hb3
        obtain ⟨g9, hg9⟩ : ∃ g, Hid (wr.heap.size = g) := ⟨_, rfl⟩
        rw [hg9.out] at hs3 ⊢
        have HS3 := Lib.hid hs3
        have HBV := Lib.hid (below2 HB.out hb3)
        have HLV := Lib.hid (HLi.out.below hb3)
        have HOV := Lib.hid (Own.own_below HO.out hb3)
        clear hV hV1 hb3 hs3
        by_cases hc : chkV c = 0
        · rw [HV.out hc] at LC
          have HBN2 := Lib.hid (HBN.out hc)
          clear hc
          go_wp2_with (first
            | (refine load_cmd rfl (.tmp 8) rfl g9 rfl c HS3.out ?_)
            | (go_at_call 33; (with_reducible refine (LC.out _ HBV.out HLV.out).mono ?_); rintro e w2 ⟨rfl, hb2⟩; have HB2 := Lib.hid (below2 HBV.out hb2); have HO2 := Lib.hid (Own.own_below HOV.out hb2); clear hb2)
            | (at_builtin; refine Own.list_one rfl (.tmp 29) (.tmp 31) 46 rfl w.heap.size 9 i0 _ 16 Tryz.underlying46 hi hz0 hz1 hz2 rfl _ _ _ rfl _ _ _ rfl (HO2.out.alloc _) (Own.cell_new _ _ _) rfl ?h1 ?h2 ?h3 ?_; (case h1 => unfold maxLen; omega); (case h2 => omega); (case h3 => have := HB2.out.size; simp; omega); intro v3 w3 hown3 hgrow3))
          have HB3 : Hid (Below w.heap.size w w3) := by
            have hb3 := below_al HB2.out (.cells #[.string (bs (lineT c))] 9)
            exact hb3.grown hgrow3 hb3.size (Own.own_block HO2.out (Nat.le_refl _))
          have HO3 : Hid (w3.ownsRow w.heap.size 9 1 v3 (k + 1) (strVals ((l.take (k + 1)).map lineB))) := by
            show World.ownsRow _ _ _ _ _ _ _
            rw [HTN.out]
            simpa [strVals, lineB] using hown3
          clear hown3 hgrow3
          go_roundw
          case rel => exact ⟨k + 1, by omega, by go_num, HO3, HBN2, HB3⟩
          case measure => simp [intOf]; omega
        · rw [HW.out hc] at LC
          have HBY2 := Lib.hid (HBY.out hc)
          clear hc
          go_wp2_with (first
            | (refine load_cmd rfl (.tmp 8) rfl g9 rfl c HS3.out ?_)
            | (go_at_call 33; (with_reducible refine (LC.out _ HBV.out HLV.out).mono ?_); rintro e w2 ⟨rfl, hb2⟩; have HB2 := Lib.hid (below2 HBV.out hb2); clear hb2))
          go_ret2
          exact ⟨Or.inl ⟨Or.inr HBY2.out, rfl⟩, HB2.out⟩
      · have dk : decide ((k : Int) < (n : Int)) = false := decide_eq_false (by omega)
        have hlt1 : ¬ (k : Int) < (n : Int) := by omega
        have htk : l.take k = l := List.take_of_length_le (by rw [HN.out]; omega)
        have hkn : k = l.length := by rw [HN.out]; omega
        rw [htk] at HBd HO
        go_wp2
        go_ret2
        exact ⟨Or.inr ⟨by rw [HN.out]; omega, HBd.out, _, rfl, by rw [← hkn]; exact HO.out⟩, HB.out⟩
set_option maxHeartbeats 4000000 in
theorem toldPut_any (a : Option Addr) (cap : Nat) (l : List CmdIn) (n : Nat) (hn : l.length = n) (hk : Okl l) (w : World) (ha : Cmds w a l) (hE : Env w) : Calls Tryz.prog 32 #[.slice a n cap, .func (.func 35) #[] #[]] w (ToldRes recB l w) := by
  have HN := Lib.hid hn
  obtain ⟨i0, hi, hz0, hz1, hz2⟩ := info_parts Frm.sinfo
  by_cases h1 : 4096 < n
  · have g1 : (4096 : Int) < (n : Int) := by omega
    clear hE
    go_enter Tryz.func32, Tryz.ntmps32
    go_wp2
    go_ret2
    exact ⟨Or.inl ⟨Or.inl (by rw [HN.out]; exact h1), rfl⟩, Below.refl _ _⟩
  · have g1 : ¬ (4096 : Int) < (n : Int) := by omega
    have HA := Lib.hid ha
    have HK := Lib.hid hk
    have LI : Hid (∀ (c : CmdIn) W, Below w.heap.size w W → Lies W c → Cok c → Calls Tryz.prog 35 #[.agg c.val] W fun e w' => e = .returned (.tuple #[.string (bs (putV c).1), .int .i64 (putV c).2]) ∧ Below W.heap.size W w') := fun c W hb hl hc => Cmd.put_any c W (hE.below hb).tab.sp hl hc
    clear hn ha hk hE
    go_enter Tryz.func32, Tryz.ntmps32
    go_wp2
    go_loopw [6, 16] (fun v i wr => ∃ k : Nat, k ≤ n ∧ i = .int .i64 (k : Int) ∧ Hid (wr.ownsRow w.heap.size 9 1 v k (strVals ((l.take k).map recB))) ∧ Hid (bad (l.take k) = false) ∧ Hid (Below w.heap.size w wr)) (fun _ i _ => n - (intOf i).toNat)
    case atStart => exact ⟨0, Nat.zero_le _, rfl, World.ownsRow_nil _ _ _ _, Lib.hid rfl, Below.refl _ _⟩
    case round =>
      obtain ⟨k, hkN, rfl, HO, HBd, HB⟩ := hrel
      by_cases hlt : k < n
      · have dk : decide ((k : Int) < (n : Int)) = true := decide_eq_true (by omega)
        have hlt1 : (k : Int) < (n : Int) := by omega
        have hkl : k < l.length := by rw [HN.out]; exact hlt
        obtain ⟨b, off, rfl, hb, hr, hl⟩ := (Cmds.below HA.out HB.out) k hkl
        have HR := Lib.hid hr
        have HLi := Lib.hid hl
        have HCk := Lib.hid (HK.out _ (getD_in hkl)).1
        have HTN := Lib.hid (maps_next recB l k hkl)
        have HBN := Lib.hid (fun h => bad_next hkl HBd.out h)
        have HBY := Lib.hid (fun h => bad_yes (l := l) hkl h)
        clear hr hl
        generalize l.getD k zeroC = c at *
        have LC := Lib.hid (fun W hb hl => LI.out c W hb hl HCk.out)
        have HZ : Hid ((wr.alloc (.cells zeroC.val 41)).heap[wr.heap.size]? = some (.cells zeroC.val 41 (0, 0))) := Own.heap_new _ _
        have HV : Hid (chkV c = 0 → putV c = (cmdB c, 0)) := fun hc => by show _ = _; unfold putV; rw [if_pos hc]
        have HW : Hid (chkV c ≠ 0 → putV c = ([], 1)) := fun hc => by show _ = _; unfold putV; rw [if_neg hc]
        go_upto_region 7 with (first
          | (refine load_at rfl (.tmp 18) rfl _ _ rfl c HR.out ?_)
          | (refine store_cmd rfl (.tmp 8) (.tmp 19) rfl rfl wr.heap.size c zeroC rfl rfl HZ.out ?_))
        refine Cmd.wp_named fun V hV => ?_
        have hV1 : V = (wr.alloc (.cells zeroC.val 41)).setRow wr.heap.size c.val := hV
        obtain ⟨hs3, hb3⟩ := box_new wr c
        rw [← hV1] at hs3 hb3
        obtain ⟨g9, hg9⟩ : ∃ g, Hid (wr.heap.size = g) := ⟨_, rfl⟩
        rw [hg9.out] at hs3 ⊢
        have HS3 := Lib.hid hs3
        have HBV := Lib.hid (below2 HB.out hb3)
        have HLV := Lib.hid (HLi.out.below hb3)
        have HOV := Lib.hid (Own.own_below HO.out hb3)
        clear hV hV1 hb3 hs3
        by_cases hc : chkV c = 0
        · rw [HV.out hc] at LC
          have HBN2 := Lib.hid (HBN.out hc)
          clear hc
          go_wp2_with (first
            | (refine load_cmd rfl (.tmp 8) rfl g9 rfl c HS3.out ?_)
            | (go_at_call 35; (with_reducible refine (LC.out _ HBV.out HLV.out).mono ?_); rintro e w2 ⟨rfl, hb2⟩; have HB2 := Lib.hid (below2 HBV.out hb2); have HO2 := Lib.hid (Own.own_below HOV.out hb2); clear hb2)
            | (at_builtin; refine Own.list_one rfl (.tmp 29) (.tmp 31) 46 rfl w.heap.size 9 i0 _ 16 Tryz.underlying46 hi hz0 hz1 hz2 rfl _ _ _ rfl _ _ _ rfl (HO2.out.alloc _) (Own.cell_new _ _ _) rfl ?h1 ?h2 ?h3 ?_; (case h1 => unfold maxLen; omega); (case h2 => omega); (case h3 => have := HB2.out.size; simp; omega); intro v3 w3 hown3 hgrow3))
          have HB3 : Hid (Below w.heap.size w w3) := by
            have hb3 := below_al HB2.out (.cells #[.string (bs (cmdB c))] 9)
            exact hb3.grown hgrow3 hb3.size (Own.own_block HO2.out (Nat.le_refl _))
          have HO3 : Hid (w3.ownsRow w.heap.size 9 1 v3 (k + 1) (strVals ((l.take (k + 1)).map recB))) := by
            show World.ownsRow _ _ _ _ _ _ _
            rw [HTN.out]
            simpa [strVals, recB] using hown3
          clear hown3 hgrow3
          go_roundw
          case rel => exact ⟨k + 1, by omega, by go_num, HO3, HBN2, HB3⟩
          case measure => simp [intOf]; omega
        · rw [HW.out hc] at LC
          have HBY2 := Lib.hid (HBY.out hc)
          clear hc
          go_wp2_with (first
            | (refine load_cmd rfl (.tmp 8) rfl g9 rfl c HS3.out ?_)
            | (go_at_call 35; (with_reducible refine (LC.out _ HBV.out HLV.out).mono ?_); rintro e w2 ⟨rfl, hb2⟩; have HB2 := Lib.hid (below2 HBV.out hb2); clear hb2))
          go_ret2
          exact ⟨Or.inl ⟨Or.inr HBY2.out, rfl⟩, HB2.out⟩
      · have dk : decide ((k : Int) < (n : Int)) = false := decide_eq_false (by omega)
        have hlt1 : ¬ (k : Int) < (n : Int) := by omega
        have htk : l.take k = l := List.take_of_length_le (by rw [HN.out]; omega)
        have hkn : k = l.length := by rw [HN.out]; omega
        rw [htk] at HBd HO
        go_wp2
        go_ret2
        exact ⟨Or.inr ⟨by rw [HN.out]; omega, HBd.out, _, rfl, by rw [← hkn]; exact HO.out⟩, HB.out⟩
end Asm
end Go.Proofs.YtlhalhilnkneeaaGreatDoor
end
