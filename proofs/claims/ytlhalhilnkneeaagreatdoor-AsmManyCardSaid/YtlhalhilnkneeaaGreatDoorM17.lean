/- Texts put together: AsmG, RepW, RepY, AsmH, CmdN. -/
import Derived.Test.YtlhalhilnkneeaaGreatDoorM14
import Derived.Test.YtlhalhilnkneeaaGreatDoorM16
import Derived.Deep.Cut
import Derived.Deep.CutBlock
import Derived.Deep.DeepCutAuto
import Derived.Test.YtlhalhilnkneeaaGreatDoorM12
import Derived.Test.YtlhalhilnkneeaaGreatDoorM15
set_option linter.all false
section
set_option maxRecDepth 100000
namespace Go.Proofs.YtlhalhilnkneeaaGreatDoor
open Go.RowKit Go.Great
namespace Asm
open Go.Lib (decDigits itoa)
open Pen (bs)
open In (strVals Strs)
open Frm (rows)
open Rec (below2 below_al below_dN Stk Stks stkVals)
open Cat (Bx)
open Cmd (Gives Snum CmdIn fi fn nm place chkV Cok Lies Stand Eqv zeroC kindOf load_cmd store_cmd ret_cmd setRow_cmd GivesC setV stand_new)
theorem parse_none1 {l : List UInt8} (h : wordsL l = [] ∨ 1024 < l.length) : parseO l = none := by
  unfold parseO
  split
  · rfl
  · rename_i k r e
    rcases h with h | h
    · rw [h] at e; cases e
    · exact if_pos h
theorem parse_none2 {l k : List UInt8} {r : List (List UInt8)} (e : wordsL l = k :: r) (h : kindOf (bs k) = 0) : parseO l = none := by
  unfold parseO
  rw [e]
  dsimp only
  rw [if_pos h]
  split <;> rfl
theorem parse_fields {l k : List UInt8} {r : List (List UInt8)} (e : wordsL l = k :: r) (hl : ¬ 1024 < l.length) (h : kindOf (bs k) ≠ 0) : parseO l = fieldsV (bareK (kindOf (bs k))) [] r := by
  unfold parseO
  rw [e]
  dsimp only
  rw [if_neg hl, if_neg h]
theorem fieldsV_step (d : CmdIn) (seen : List (List UInt8)) (P : List UInt8) (r : List (List UInt8)) : fieldsV d seen (P :: r) = if (cutS 61 P).2.2 = false then none else if (cutS 61 P).1 ∈ seen then none else match fieldV d (cutS 61 P).1 (cutS 61 P).2.1 with
    | none => none
    | some d' => fieldsV d' (seen ++ [(cutS 61 P).1]) r := by
  rw [fieldsV]
  unfold cutS
  cases cutL 61 P with
  | none => rfl
  | some p => rfl
/-- What a name and a text make of a command. -/
def issues (k : Int) (a : List UInt8) : Bool := decide (k = 14) && (decide (a = givesN) || decide (a = wantsN))
theorem fieldV_issues (d : CmdIn) (a t : List UInt8) : fieldV d a t = if issues d.kind a = true then (if a = givesN then (stksL t).map fun l => { d with gives := l, ga := none, gc := 0 } else (stksL t).map fun l => { d with wants := l, wa := none, wc := 0 }) else match numL t with
    | none => none
    | some n => if Cmd.isIn (fn d.kind) (bs a) = true then match place (bs a) with
      | some i => some (d.set i n)
      | none => none
    else none := by
  unfold fieldV issues
  by_cases h1 : d.kind = 14
  · by_cases h2 : a = givesN
    · rw [if_pos ⟨h1, h2⟩]; simp [h1, h2]
    · by_cases h3 : a = wantsN
      · have hn : wantsN ≠ givesN := by decide
        rw [if_neg (fun h => h2 h.2), if_pos ⟨h1, h3⟩]; simp [h1, h3, hn]
      · rw [if_neg (fun h => h2 h.2), if_neg (fun h => h3 h.2)]; simp [h1, h2, h3]; rfl
  · rw [if_neg (fun h => h1 h.1), if_neg (fun h => h1 h.1)]; simp [h1]; rfl
theorem isIn_place {k : Int} {s : ByteArray} (h : Cmd.isIn (fn k) s = true) : ∃ i, place s = some i := by
  rw [Cmd.isIn_iff] at h
  unfold fn at h
  obtain ⟨i, hi, e⟩ := List.mem_map.1 h
  exact ⟨i, by rw [← e]; exact Cmd.place_nm (Cmd.fi_small _ i hi)⟩
theorem isIn_rows (l : List (List UInt8)) (a : List UInt8) : Cmd.isIn (rows l) (bs a) = decide (a ∈ l) := by
  rw [Bool.eq_iff_iff, Cmd.isIn_iff, decide_eq_true_iff]
  unfold rows
  rw [List.mem_map]
  constructor
  · rintro ⟨x, hx, e⟩
    rw [← Cmd.bs_inj e]
    exact hx
  · exact fun h => ⟨a, h, rfl⟩
set_option maxHeartbeats 8000000 in
theorem refParse_any (s : ByteArray) (hs : s.size ≤ 1000000) (w : World) : Calls Tryz.prog 30 #[.string s] w (GivesP (parseO s.data.toList) w) := by
  obtain ⟨i0, hi, hz0, hz1, hz2⟩ := info_parts Frm.sinfo
  have hlen : s.data.toList.length = s.size := by simp
  have WD : Hid (∀ W, Calls Tryz.prog 29 #[.string s] W (Gives (rows (wordsL s.data.toList)) W)) := fun W => refWords_any s hs W
  have KD : Hid (∀ k W, Calls Tryz.prog 54 #[.string k] W fun e w' => e = .returned (.int .i64 (kindOf k)) ∧ Below W.heap.size W w') := fun k W => Cmd.refKind_any k W
  obtain ⟨O, hO⟩ : ∃ O, Hid (parseO s.data.toList = O) := ⟨_, rfl⟩
  obtain ⟨WS, hWS⟩ : ∃ WS, Hid (wordsL s.data.toList = WS) := ⟨_, rfl⟩
  rw [hWS.out] at WD
  rw [hO.out]
  obtain ⟨N, hN⟩ : ∃ N, Hid ((rows WS).length = N) := ⟨_, rfl⟩
  have hN2 : Hid (WS.length = N) := by rw [← hN.out]; exact (rows_len WS).symm
  have hNb : N ≤ 1000001 := by
    have h1 : (wordsL s.data.toList).length ≤ (splitL 32 s.data.toList).length := List.length_filter_le _ _
    have h2 := List.count_le_length (a := (32 : UInt8)) (l := s.data.toList)
    rw [splitL_len, hWS.out, hN2.out] at h1
    rw [hlen] at h2
    omega
  have HZ0 : Hid ((w.alloc (.cells zeroC.val 41)).heap[w.heap.size]? = some (.cells zeroC.val 41 (0, 0))) := Own.heap_new _ _
  by_cases h1 : 1024 < s.size
  · have HR : Hid (O = none) := by show _ = _; rw [← hO.out]; exact parse_none1 (Or.inr (by rw [hlen]; exact h1))
    have g1 : (1024 : Int) < (s.size : Int) := by omega
    go_enter Tryz.func30, Tryz.ntmps30
    go_wp2_with (first
      | (go_at_call 29; (with_reducible refine (WD.out _).mono ?_); rintro e w1 ⟨wa, wc, rfl, HS1, HB1, -⟩; rw [hN.out]; have HZ1 : Hid (w1.heap[w.heap.size]? = some (.cells zeroC.val 41 (0, 0))) := (HB1.out.block _ (Array.getElem?_eq_some_iff.1 HZ0.out).1).trans HZ0.out)
      | (refine wpList_buildTo rfl 41 _ rfl (some 27) rfl zeroC.val (by as_aux_lemma => kernel_rfl) ?_)
      | (refine store_cmd rfl (.tmp 2) (.tmp 27) rfl rfl w.heap.size zeroC zeroC rfl rfl HZ1.out ?_))
    try simp only [Exit.inBlock, Exit.then]
    refine bodyPost_ret (v := .tuple #[.agg zeroC.val, .int .i64 2]) (ret_cmd rfl _ _ w.heap.size zeroC _ rfl rfl (setRow_cmd _ HZ1.out)) rfl (GivesP.no HR.out ?_)
    exact (below2 (below_al (Below.refl w.heap.size w) _) HB1.out).grown (setRow_grown _ _ _) (by have := HB1.out.size; simp at this; omega) (fun k hk => by cases hk; exact Nat.le_refl _)
  · have g1 : ¬ (1024 : Int) < (s.size : Int) := by omega
    cases hW : WS with
    | nil =>
      have HR : Hid (O = none) := by show _ = _; rw [← hO.out]; exact parse_none1 (Or.inl (by rw [hWS.out, hW]))
      have N0 : N = 0 := by rw [← hN2.out, hW]; rfl
      subst N0
      clear hW
      go_enter Tryz.func30, Tryz.ntmps30
      go_wp2_with (first
        | (go_at_call 29; (with_reducible refine (WD.out _).mono ?_); rintro e w1 ⟨wa, wc, rfl, HS1, HB1, -⟩; rw [hN.out]; have HZ1 : Hid (w1.heap[w.heap.size]? = some (.cells zeroC.val 41 (0, 0))) := (HB1.out.block _ (Array.getElem?_eq_some_iff.1 HZ0.out).1).trans HZ0.out)
        | (refine wpList_buildTo rfl 41 _ rfl (some 27) rfl zeroC.val (by as_aux_lemma => kernel_rfl) ?_)
        | (refine store_cmd rfl (.tmp 2) (.tmp 27) rfl rfl w.heap.size zeroC zeroC rfl rfl HZ1.out ?_))
      try simp only [Exit.inBlock, Exit.then]
      refine bodyPost_ret (v := .tuple #[.agg zeroC.val, .int .i64 2]) (ret_cmd rfl _ _ w.heap.size zeroC _ rfl rfl (setRow_cmd _ HZ1.out)) rfl (GivesP.no HR.out ?_)
      exact (below2 (below_al (Below.refl w.heap.size w) _) HB1.out).grown (setRow_grown _ _ _) (by have := HB1.out.size; simp at this; omega) (fun k hk => by cases hk; exact Nat.le_refl _)
    | cons k0 R =>
      have N1 : 1 ≤ N := by rw [← hN2.out, hW]; simp
      have hW1 : Hid (wordsL s.data.toList = k0 :: R) := by show _ = _; rw [hWS.out, hW]
      have hR1 : Hid (R.length + 1 = N) := by show _ = _; rw [← hN2.out, hW]; rfl
      obtain ⟨K, hK⟩ : ∃ K, Hid (kindOf (bs k0) = K) := ⟨_, rfl⟩
      have KD0 : Hid (∀ W, Calls Tryz.prog 54 #[.string (bs k0)] W fun e w' => e = .returned (.int .i64 K) ∧ Below W.heap.size W w') := fun W => by
        have := KD.out (bs k0) W
        rw [hK.out] at this
        exact this
      have W0 : Hid ((rows WS).getD 0 ByteArray.empty = bs k0) := by show _ = _; rw [hW]; rfl
      have WI : Hid (∀ i, i < R.length → (rows WS).getD (i + 1) ByteArray.empty = bs (R.getD i [])) := fun i hi => by rw [hW, rows_getD]; rfl
      have hnz : ¬ (N : Int) = 0 := by omega
      have hnb : ((N : Int) == 0) = false := by simp; omega
      have h0N : (0 : Int) < (N : Int) := by omega
      have RL : Hid (∀ p ∈ R, p.length ≤ 1000000) := fun p hp => by
        have hp2 : p ∈ wordsL s.data.toList := by rw [hW1.out]; exact List.mem_cons_of_mem _ hp
        have := splitL_mem 32 _ p (List.mem_filter.1 hp2).1
        omega
      clear hW
      go_enter Tryz.func30, Tryz.ntmps30
      go_upto_region 5 with (first
        | (go_at_call 29; (with_reducible refine (WD.out _).mono ?_); rintro e w1 ⟨wa, wc, rfl, HS1, HB1, -⟩; rw [hN.out]; have HZ1 : Hid (w1.heap[w.heap.size]? = some (.cells zeroC.val 41 (0, 0))) := (HB1.out.block _ (Array.getElem?_eq_some_iff.1 HZ0.out).1).trans HZ0.out; obtain ⟨wb, wo, rfl, hwb, hc0⟩ := HS1.out 0 (by rw [hN.out]; exact N1); rw [W0.out] at hc0; have hc00 : w1.cell? ⟨wb, wo, none⟩ = some (.string (bs k0)) := hc0)
        | (go_at_call 54; (with_reducible refine (KD0.out _).mono ?_); rintro e w2 ⟨rfl, hb2⟩; have HB2 := Lib.hid hb2; have HZ2 : Hid ((w2.alloc (.cells zeroC.val 41)).heap[w2.heap.size]? = some (.cells zeroC.val 41 (0, 0))) := Own.heap_new _ _)
        | (refine wpList_buildTo rfl 41 _ rfl (some 32) rfl (bareK K).val (by as_aux_lemma => kernel_rfl) ?_)
        | (refine store_cmd rfl (.tmp 5) (.tmp 32) rfl rfl w2.heap.size (bareK K) zeroC rfl rfl HZ2.out ?_))
      refine Cmd.wp_named fun L hL => ?_
      have hL1 : L = (w2.alloc (.cells zeroC.val 41)).setRow w2.heap.size (bareK K).val := hL
      have hBx1 := HB2.out
      have HSL : Hid (Stand L w2.heap.size (bareK K)) := by
        rw [hL1]
        exact Cmd.stand_of_heap (setRow_cmd _ HZ2.out)
      have hgrow := setRow_grown (w2.alloc (.cells zeroC.val 41)) w2.heap.size (bareK K).val
      rw [← hL1] at hgrow
      have hb2L : Below w2.heap.size w2 L := (below_al (Below.refl w2.heap.size w2) _).grown hgrow (by simp) (fun k hk => by cases hk; exact Nat.le_refl _)
      have hLs : w2.heap.size < L.heap.size := World.rowIs.lt HSL.out
      have hw12 := HB2.out.size
      have hw01 := HB1.out.size
      simp at hw01
      have hZL : L.heap[w.heap.size]? = some (.cells zeroC.val 41 (0, 0)) := (hb2L.block _ (by omega)).trans ((HB2.out.block _ (by omega)).trans HZ1.out)
      have hPS : PS w L L w.heap.size w2.heap.size (bareK K) (.slice none 0 0) [] :=
        ⟨below2 (below2 (below2 (below_al (Below.refl w.heap.size w) _) HB1.out) HB2.out) hb2L, Bx.refl _ _ _, HSL.out, hZL, World.ownsRow_nil _ _ _ _, ⟨fun i hi => absurd hi (Nat.not_lt_zero i), fun i hi => absurd hi (Nat.not_lt_zero i)⟩, fun x hx => (by rcases hx with ⟨h, -⟩ | ⟨h, -⟩ <;> exact absurd rfl h), by omega, hLs, by omega, Nat.le_refl _, by omega⟩
      have HPS := Lib.hid hPS
      have HSW := Lib.hid (HS1.out.below (below2 HB2.out hb2L))
      have c0 := HSL.out.three.1
      have hwbL : wb < L.heap.size := by omega
      obtain ⟨cb, hcb⟩ : ∃ cb, Hid (w2.heap.size = cb) := ⟨_, rfl⟩
      obtain ⟨rb, hrb⟩ : ∃ rb, Hid (w.heap.size = rb) := ⟨_, rfl⟩
      rw [hcb.out] at c0 HPS ⊢
      rw [hrb.out] at HPS ⊢
      have ec0 : (bareK K).kind = K := rfl
      rw [ec0] at c0
      by_cases hK0 : K = 0
      · have HR : Hid (O = none) := by show _ = _; rw [← hO.out]; exact parse_none2 hW1.out (by rw [hK.out]; exact hK0)
        have gk : (K == 0) = true := by simpa using hK0
        clear hL hL1 hBx1 hgrow hb2L hZL hPS hK0
        go_wp2_with (first
          | (refine wpList_buildTo rfl 41 _ rfl (some 36) rfl zeroC.val (by as_aux_lemma => kernel_rfl) ?_)
          | (refine store_cmd rfl (.tmp 2) (.tmp 36) rfl rfl rb zeroC zeroC rfl rfl HPS.out.res ?_))
        try simp only [Exit.inBlock, Exit.then]
        exact bodyPost_ret (v := .tuple #[.agg zeroC.val, .int .i64 2]) (ret_cmd rfl _ _ rb zeroC _ rfl rfl (setRow_cmd _ HPS.out.res)) rfl (GivesP.no HR.out HPS.out.no)
      · have gk : (K == 0) = false := by simpa using hK0
        have HO0 : Hid (O = fieldsV (bareK K) [] (R.drop 0)) := by
          show _ = _
          rw [← hO.out, parse_fields hW1.out (by rw [hlen]; exact h1) (by rw [hK.out]; exact hK0), hK.out]
          rfl
        have CU : Hid (∀ (P : List UInt8), P.length ≤ 1000000 → ∀ W, Calls Tryz.prog 55 #[.string (bs P), .int .u8 61] W fun e w' => e = .returned (.tuple #[.string (bs (cutS 61 P).1), .string (bs (cutS 61 P).2.1), .bool (cutS 61 P).2.2]) ∧ Below W.heap.size W w') := fun P hP W => refCut_any (bs P) 61 (by rw [Pen.bs_size]; exact hP) W
        have NU : Hid (∀ (P : List UInt8), P.length ≤ 1000000 → ∀ W, Calls Tryz.prog 58 #[.string (bs P)] W (NumRes P W)) := fun P hP W => refNumber_any (bs P) (by rw [Pen.bs_size]; exact hP) W
        have SU : Hid (∀ (P : List UInt8), P.length ≤ 1000000 → ∀ W, Calls Tryz.prog 57 #[.string (bs P)] W (StkRes (stksL P) W)) := fun P hP W => refStacks37_any (bs P) (by rw [Pen.bs_size]; exact hP) W
        have IU : Hid (∀ (oa : Option Addr) (oc : Nat) (l : List (List UInt8)) (a : List UInt8), l.length ≤ 1000000 → ∀ W, Strs W oa (rows l) → Calls Tryz.prog 56 #[.slice oa l.length oc, .string (bs a)] W fun e w' => e = .returned (.bool (decide (a ∈ l))) ∧ Below W.heap.size W w') := fun oa oc l a hl W h => by
          have := ref_in_any oa oc (rows l) l.length (rows_len l) hl (bs a) W h
          rw [isIn_rows] at this
          exact this
        have FU : Hid (∀ K W, Calls Tryz.prog 59 #[.int .i64 K] W (Gives (fn K) W)) := fun K W => Cmd.refFields_any K W
        have EU : Hid (∀ (c : CmdIn) (s : ByteArray) (n : Int) (W : World), Lies W c → Calls Tryz.prog 60 #[.agg c.val, .string s, .int .i64 n] W (GivesC c (setV c s n) (place s).isSome W)) := fun c s n W h => Cmd.refSet2_any c s n W h
        have hwc : wb ≠ cb := by have := hcb.out; have := hwb; omega
        clear hL hL1 hBx1 hgrow hb2L hZL hPS hK0
        go_wp2
        go_loopw [6, 7] (fun v6 v7 wr => ∃ (k : Nat) (c d : CmdIn) (seen : List (List UInt8)), 1 ≤ k ∧ k ≤ N ∧ v7 = .int .i64 (k : Int) ∧ Hid (PS w L wr rb cb c v6 seen) ∧ Hid (Eqv c d) ∧ Hid (seen.length + 1 = k) ∧ Hid (O = fieldsV d seen (R.drop (k - 1)))) (fun _ v7 _ => N - (intOf v7).toNat)
        case atStart => exact ⟨1, bareK K, bareK K, [], Nat.le_refl _, N1, rfl, HPS.out, Eqv.refl _, rfl, HO0.out⟩
        case round =>
          obtain ⟨k, c, d, seen, hk1, hkN, rfl, HP, HE, HSN, HOF⟩ := hrel
          by_cases hlt : k < N
          · have dk : decide ((k : Int) < (N : Int)) = true := decide_eq_true (by omega)
            have hlt1 : (k : Int) < (N : Int) := by omega
            have hkR : k - 1 < R.length := by have := hR1.out; omega
            have hPm : R.getD (k - 1) [] ∈ R := by rw [List.getD_eq_getElem?_getD, List.getElem?_eq_getElem hkR]; exact List.getElem_mem _
            have hPl := RL.out _ hPm
            obtain ⟨b0, off0, e0, hb0, hc⟩ := HSW.out k (by rw [hN.out]; exact hlt)
            cases e0
            have hWk : (rows WS).getD k ByteArray.empty = bs (R.getD (k - 1) []) := by
              have := WI.out (k - 1) hkR
              rwa [show k - 1 + 1 = k by omega] at this
            rw [hWk] at hc
            have hcw : wr.cell? ⟨wb, wo + k, none⟩ = some (.string (bs (R.getD (k - 1) []))) := HP.out.bx.keep hb0 hwc hc
            have hwl : wb < wr.heap.size := Nat.lt_of_lt_of_le hb0 HP.out.le.2
            have hdr : R.drop (k - 1) = R.getD (k - 1) [] :: R.drop k := by
              rw [List.drop_eq_getElem_cons hkR, List.getD_eq_getElem?_getD, List.getElem?_eq_getElem hkR]
              congr 2
              omega
            have HOS : Hid (O = _) := HOF.out.trans (by rw [hdr, fieldsV_step])
            clear hWk hdr hPm hc
            generalize R.getD (k - 1) [] = P at *
            have CP := Lib.hid (CU.out P hPl)
            have cl := cutS_len 61 P
            generalize cutS 61 P = CS at *
            obtain ⟨a, b, ok⟩ := CS
            dsimp only at CP HOS cl
            have hown := HP.out.own
            rw [← rows_len seen] at hown
            obtain ⟨oa, oc, e6, hos⟩ := In.strs_of_own hown
            rw [rows_len] at e6
            subst e6
            have HOS1 := Lib.hid hos
            clear hos hown
            have hsl : seen.length ≤ 1000000 := by have := HSN.out; omega
            cases ok with
            | false =>
              have HR : Hid (O = none) := by show _ = _; rw [HOS.out]; simp
              go_wp2_with (first
                | (go_at_call 55; (with_reducible refine (CP.out _).mono ?_); rintro e w3 ⟨rfl, hb3⟩; have HP3 := Lib.hid (HP.out.below hb3); have HS3 := Lib.hid (HOS1.out.below hb3); clear hb3)
                | (refine wpList_buildTo rfl 41 _ rfl (some 59) rfl zeroC.val (by as_aux_lemma => kernel_rfl) ?_)
                | (refine store_cmd rfl (.tmp 2) (.tmp 59) rfl rfl rb zeroC zeroC rfl rfl HP3.out.res ?_))
              try simp only [Exit.inBlock, Exit.then]
              exact bodyPost_ret (v := .tuple #[.agg zeroC.val, .int .i64 2]) (ret_cmd rfl _ _ rb zeroC _ rfl rfl (setRow_cmd _ HP3.out.res)) rfl (GivesP.no HR.out HP3.out.no)
            | true =>
              have IN := Lib.hid (IU.out oa oc seen a hsl)
              by_cases hin : a ∈ seen
              · have IB : Hid (decide (a ∈ seen) = true) := decide_eq_true hin
                have HR : Hid (O = none) := by show _ = _; rw [HOS.out]; simp [hin]
                clear hin
                go_wp2_with (first
                | (go_at_call 55; (with_reducible refine (CP.out _).mono ?_); rintro e w3 ⟨rfl, hb3⟩; have HP3 := Lib.hid (HP.out.below hb3); have HS3 := Lib.hid (HOS1.out.below hb3); clear hb3)
                | (go_at_call 56; (with_reducible refine (IN.out _ HS3.out).mono ?_); rintro e w4 ⟨rfl, hb4⟩; rw [IB.out]; have HP4 := Lib.hid (HP3.out.below hb4); clear hb4)
                | (refine wpList_buildTo rfl 41 _ rfl (some 59) rfl zeroC.val (by as_aux_lemma => kernel_rfl) ?_)
                | (refine store_cmd rfl (.tmp 2) (.tmp 59) rfl rfl rb zeroC zeroC rfl rfl HP4.out.res ?_))
                try simp only [Exit.inBlock, Exit.then]
                exact bodyPost_ret (v := .tuple #[.agg zeroC.val, .int .i64 2]) (ret_cmd rfl _ _ rb zeroC _ rfl rfl (setRow_cmd _ HP4.out.res)) rfl (GivesP.no HR.out HP4.out.no)
              · have IB : Hid (decide (a ∈ seen) = false) := decide_eq_false hin
                have HOT : Hid (O = match fieldV d a b with | none => none | some d' => fieldsV d' (seen ++ [a]) (R.drop k)) := by show _ = _; rw [HOS.out]; simp [hin]
                clear hin
                go_upto_region 15 with (first
                | (go_at_call 55; (with_reducible refine (CP.out _).mono ?_); rintro e w3 ⟨rfl, hb3⟩; have HP3 := Lib.hid (HP.out.below hb3); have HS3 := Lib.hid (HOS1.out.below hb3); clear hb3)
                | (go_at_call 56; (with_reducible refine (IN.out _ HS3.out).mono ?_); rintro e w4 ⟨rfl, hb4⟩; rw [IB.out]; have HP4 := Lib.hid (HP3.out.below hb4); clear hb4)
                | (at_builtin; refine list_one_at rfl (.tmp 60) (.tmp 62) 46 rfl L.heap.size 9 i0 _ 16 Tryz.underlying46 hi hz0 hz1 hz2 rfl _ _ _ rfl _ _ _ rfl (HP4.out.own.alloc _) (Own.cell_new _ _ _) rfl ?h1 ?h2 ?h3 ?_; (case h1 => unfold maxLen; omega); (case h2 => omega); (case h3 => have := HP4.out.le.2; simp; omega); intro g5 cap5 w5 hown5 hgrow5 hat5; have HP5 := Lib.hid (PS.app (HP4.out.below (below_al (Below.refl _ _) _)) hown5 hgrow5 hat5); clear hown5 hgrow5 hat5))
                have k5 := HP5.out.box.three.1
                have hdk : d.kind = c.kind := HE.out.kind.symm
                have HOF2 : Hid (O = match (if issues c.kind a = true then (if a = givesN then (stksL b).map fun l => { d with gives := l, ga := none, gc := 0 } else (stksL b).map fun l => { d with wants := l, wa := none, wc := 0 }) else match numL b with
                  | none => none
                  | some n => if Cmd.isIn (fn c.kind) (bs a) = true then match place (bs a) with
                    | some i => some (d.set i n)
                    | none => none
                  else none) with | none => none | some d' => fieldsV d' (seen ++ [a]) (R.drop k)) := by
                  show _ = _
                  rw [HOT.out, fieldV_issues, hdk]
                obtain ⟨KD2, hKD2⟩ : ∃ KD2, Hid (c.kind = KD2) := ⟨_, rfl⟩
                rw [hKD2.out] at k5 HOF2
                obtain ⟨IS, hIS⟩ : ∃ IS, Hid (issues KD2 a = IS) := ⟨_, rfl⟩
                rw [hIS.out] at HOF2
                have qg : ((bs a).toList == [103, 105, 118, 101, 115]) = decide (a = givesN) := by
                  rw [bs_toList, Bool.eq_iff_iff]
                  simp [givesN]
                  exact ⟨fun h => decide_eq_true h, of_decide_eq_true⟩
                have qw : ((bs a).toList == [119, 97, 110, 116, 115]) = decide (a = wantsN) := by
                  rw [bs_toList, Bool.eq_iff_iff]
                  simp [wantsN]
                  exact ⟨fun h => decide_eq_true h, of_decide_eq_true⟩
                obtain ⟨GG, hGG⟩ : ∃ GG, Hid (decide (a = givesN) = GG) := ⟨_, rfl⟩
                obtain ⟨WW, hWW⟩ : ∃ WW, Hid (decide (a = wantsN) = WW) := ⟨_, rfl⟩
                rw [hGG.out] at qg
                rw [hWW.out] at qw
                have QG := Lib.hid qg
                go_cut [74] (fun v wx => v = .bool IS ∧ wx = w5)
                case first =>
                  have hI2 : ((KD2 == 14) && (GG || WW)) = IS := by
                    rw [← hIS.out, ← hGG.out, ← hWW.out]
                    unfold issues
                    congr 1
                  by_cases h14 : KD2 = 14
                  · have b14 : (KD2 == 14) = true := by simpa using h14
                    rw [b14, Bool.true_and] at hI2
                    cases GG
                    · rw [Bool.false_or] at hI2
                      cases WW
                      · have HI2 : Hid (false = IS) := hI2
                        clear hI2
                        go_wp2
                        go_meet
                        case rel => exact ⟨congrArg Value.bool HI2.out, rfl⟩
                      · have HI2 : Hid (true = IS) := hI2
                        clear hI2
                        go_wp2
                        go_meet
                        case rel => exact ⟨congrArg Value.bool HI2.out, rfl⟩
                    · have HI2 : Hid (true = IS) := hI2
                      clear hI2
                      go_wp2
                      go_meet
                      case rel => exact ⟨congrArg Value.bool HI2.out, rfl⟩
                  · have b14 : (KD2 == 14) = false := by simpa using h14
                    have HI2 : Hid (false = IS) := by rw [b14] at hI2; exact hI2
                    clear hI2
                    go_wp2
                    go_meet
                    case rel => exact ⟨congrArg Value.bool HI2.out, rfl⟩
                case rest =>
                  obtain ⟨rfl, rfl⟩ := hcut
                  have hbl : b.length ≤ 1000000 := by have := cl.2; omega
                  have HSN2 : Hid ((seen ++ [a]).length + 1 = k + 1) := by
                    show _ = _
                    rw [List.length_append, ← HSN.out]
                    rfl
                  cases IS with
                  | true =>
                    have SB := Lib.hid (SU.out b hbl)
                    have HOF3 : Hid (O = match (if a = givesN then (stksL b).map fun l => { d with gives := l, ga := none, gc := 0 } else (stksL b).map fun l => { d with wants := l, wa := none, wc := 0 }) with | none => none | some d' => fieldsV d' (seen ++ [a]) (R.drop k)) := HOF2.out
                    generalize stksL b = SO at *
                    go_upto_region 17 with (go_at_call 57; (with_reducible refine (SB.out _).mono ?_); rintro e w6 ⟨⟨l6, a6, cap6, ho6, rfl, HS6, HF6, hn6⟩ | ⟨ho6, rfl⟩, HB6⟩)
                    · have HP6 := Lib.hid (HP5.out.below HB6.out)
                      have FR6 : Hid (∀ x, a6 = some x → some x.block ≠ Value.ownBlock (.slice (some ⟨g5, 0, none⟩) (seen.length + 1) cap5) ∧ x.block ≠ cb ∧ x.block ≠ rb ∧ w.heap.size ≤ x.block) := fun x hx => by
                        have h1 := HF6.out x hx
                        have h2 := HP5.out.num
                        have h3 := HP5.out.le
                        have h4 := (HP5.out.own.lt g5 rfl).2
                        refine ⟨fun e => ?_, by omega, by omega, by omega⟩
                        have e1 : x.block = g5 := Option.some.inj e
                        omega
                      by_cases hg : a = givesN
                      · have GT : GG = true := by rw [← hGG.out]; exact decide_eq_true hg
                        subst GT
                        have HON : Hid (O = fieldsV { d with gives := l6, ga := none, gc := 0 } (seen ++ [a]) (R.drop (k + 1 - 1))) := by
                          show _ = _
                          rw [HOF3.out, if_pos hg, ho6]
                          rfl
                        clear hg
                        have c20 := HP6.out.box.three
                        have fz := Cmd.num_frozen HP6.out.box 20
                        have cbl : cb < w6.heap.size := World.rowIs.lt HP6.out.box
                        have m20 := c20.2.1
                        have HPN : Hid (PS w L (w6.setCell ⟨cb, 20, none⟩ (.slice a6 l6.length cap6)) rb cb { c with gives := l6, ga := a6, gc := cap6 } (.slice (some ⟨g5, 0, none⟩) (seen.length + 1) cap5) (seen ++ [a])) := by
                          refine HP6.out.set ⟨HS6.out, HP6.out.lies.w⟩ (fun x hx => ?_) (HP6.out.box.giv l6 a6 cap6) ⟨rfl, rfl, rfl, by simp, fun k hk hne => Below.heap_setCell _ _ _ _ fun e => hne (by rw [e])⟩
                          rcases hx with ⟨h, e⟩ | ⟨h, e⟩
                          · exact FR6.out x e
                          · exact HP5.out.far x (Or.inr ⟨h, e⟩)
                        have HEN : Hid (Eqv { c with gives := l6, ga := a6, gc := cap6 } { d with gives := l6, ga := none, gc := 0 }) := ⟨HE.out.kind, HE.out.num, rfl, HE.out.wants⟩
                        clear c20
                        go_wp2
                        go_roundw
                        case rel => exact ⟨k + 1, _, _, seen ++ [a], by omega, by omega, by go_num, HPN, HEN, HSN2, HON⟩
                        case measure => simp [intOf]; omega
                      · have GT : GG = false := by rw [← hGG.out]; exact decide_eq_false hg
                        subst GT
                        have HON : Hid (O = fieldsV { d with wants := l6, wa := none, wc := 0 } (seen ++ [a]) (R.drop (k + 1 - 1))) := by
                          show _ = _
                          rw [HOF3.out, if_neg hg, ho6]
                          rfl
                        clear hg
                        have c20 := HP6.out.box.three
                        have fz := Cmd.num_frozen HP6.out.box 21
                        have cbl : cb < w6.heap.size := World.rowIs.lt HP6.out.box
                        have m20 := c20.2.2
                        have HPN : Hid (PS w L (w6.setCell ⟨cb, 21, none⟩ (.slice a6 l6.length cap6)) rb cb { c with wants := l6, wa := a6, wc := cap6 } (.slice (some ⟨g5, 0, none⟩) (seen.length + 1) cap5) (seen ++ [a])) := by
                          refine HP6.out.set ⟨HP6.out.lies.g, HS6.out⟩ (fun x hx => ?_) (HP6.out.box.wan l6 a6 cap6) ⟨rfl, rfl, rfl, by simp, fun k hk hne => Below.heap_setCell _ _ _ _ fun e => hne (by rw [e])⟩
                          rcases hx with ⟨h, e⟩ | ⟨h, e⟩
                          · exact HP5.out.far x (Or.inl ⟨h, e⟩)
                          · exact FR6.out x e
                        have HEN : Hid (Eqv { c with wants := l6, wa := a6, wc := cap6 } { d with wants := l6, wa := none, wc := 0 }) := ⟨HE.out.kind, HE.out.num, HE.out.gives, rfl⟩
                        clear c20
                        go_wp2
                        go_roundw
                        case rel => exact ⟨k + 1, _, _, seen ++ [a], by omega, by omega, by go_num, HPN, HEN, HSN2, HON⟩
                        case measure => simp [intOf]; omega
                    · have HP6 := Lib.hid (HP5.out.below HB6.out)
                      have HR : Hid (O = none) := by
                        show _ = _
                        rw [HOF3.out, ho6]
                        by_cases hg : a = givesN
                        · rw [if_pos hg]; rfl
                        · rw [if_neg hg]; rfl
                      go_wp2_with (first
                      | (refine wpList_buildTo rfl 41 _ rfl (some 82) rfl zeroC.val (by as_aux_lemma => kernel_rfl) ?_)
                      | (refine store_cmd rfl (.tmp 2) (.tmp 82) rfl rfl rb zeroC zeroC rfl rfl HP6.out.res ?_))
                      try simp only [Exit.inBlock, Exit.then]
                      exact bodyPost_ret (v := .tuple #[.agg zeroC.val, .int .i64 2]) (ret_cmd rfl _ _ rb zeroC _ rfl rfl (setRow_cmd _ HP6.out.res)) rfl (GivesP.no HR.out HP6.out.no)
                  | false =>
                    have NB := Lib.hid (NU.out b hbl)
                    have HOF3 : Hid (O = match (match numL b with
                      | none => none
                      | some n => if Cmd.isIn (fn KD2) (bs a) = true then match place (bs a) with
                        | some i => some (d.set i n)
                        | none => none
                      else none) with | none => none | some d' => fieldsV d' (seen ++ [a]) (R.drop k)) := HOF2.out
                    obtain ⟨m6, hm6⟩ : ∃ m, Hid ((fn KD2).length = m) := ⟨_, rfl⟩
                    have hm1 : m6 ≤ 11 := by
                      rw [← hm6.out]
                      unfold fn
                      rw [List.length_map]
                      exact Cmd.fi_len KD2
                    have FB : Hid (∀ W, Calls Tryz.prog 59 #[.int .i64 KD2] W (Gives (fn KD2) W)) := fun W => FU.out KD2 W
                    obtain ⟨II, hII⟩ : ∃ II, Hid (Cmd.isIn (fn KD2) (bs a) = II) := ⟨_, rfl⟩
                    have JU : Hid (∀ (oa : Option Addr) (oc : Nat) W, Strs W oa (fn KD2) → Calls Tryz.prog 56 #[.slice oa m6 oc, .string (bs a)] W fun e w' => e = .returned (.bool II) ∧ Below W.heap.size W w') := fun oa oc W h => by
                      have := ref_in_any oa oc (fn KD2) m6 hm6.out (by omega) (bs a) W h
                      rw [hII.out] at this
                      exact this
                    rw [hII.out] at HOF3
                    obtain ⟨ON6, hON6⟩ : ∃ x : Option Int, Hid (numL b = x) := ⟨_, rfl⟩
                    cases hx6 : ON6 with
                    | none =>
                      have HR : Hid (O = none) := by show _ = _; rw [HOF3.out, hON6.out, hx6]
                      have NB2 : Hid (∀ W, Calls Tryz.prog 58 #[.string (bs b)] W fun e w' => ∃ n, e = .returned (.tuple #[.int .i64 n, .bool false]) ∧ Below W.heap.size W w') := fun W => (NB.out W).mono fun e w' ⟨⟨n, ok, h1, h2⟩, h3⟩ => by
                        have h4 := num_is h2
                        rw [hON6.out, hx6] at h4
                        cases ok with
                        | false => exact ⟨n, h1, h3⟩
                        | true => cases h4
                      clear hx6
                      go_wp2_with (first
                        | (go_at_call 58; (with_reducible refine (NB2.out _).mono ?_); rintro e w6 ⟨n6, rfl, hb6⟩; have HP6 := Lib.hid (HP5.out.below hb6); clear hb6)
                        | (refine wpList_buildTo rfl 41 _ rfl (some 104) rfl zeroC.val (by as_aux_lemma => kernel_rfl) ?_)
                        | (refine store_cmd rfl (.tmp 2) (.tmp 104) rfl rfl rb zeroC zeroC rfl rfl HP6.out.res ?_))
                      try simp only [Exit.inBlock, Exit.then]
                      exact bodyPost_ret (v := .tuple #[.agg zeroC.val, .int .i64 2]) (ret_cmd rfl _ _ rb zeroC _ rfl rfl (setRow_cmd _ HP6.out.res)) rfl (GivesP.no HR.out HP6.out.no)
                    | some n6 =>
                      have NB2 : Hid (∀ W, Calls Tryz.prog 58 #[.string (bs b)] W fun e w' => e = .returned (.tuple #[.int .i64 n6, .bool true]) ∧ Below W.heap.size W w') := fun W => (NB.out W).mono fun e w' ⟨⟨n, ok, h1, h2⟩, h3⟩ => by
                        have h4 := num_is h2
                        rw [hON6.out, hx6] at h4
                        cases ok with
                        | false => cases h4
                        | true => cases h4; exact ⟨h1, h3⟩
                      have HN6 : Hid (numL b = some n6) := by show _ = _; rw [hON6.out, hx6]
                      clear hx6
                      cases II with
                      | false =>
                        have HR : Hid (O = none) := by show _ = _; rw [HOF3.out, HN6.out]; rfl
                        go_wp2_with (first
                        | (go_at_call 58; (with_reducible refine (NB2.out _).mono ?_); rintro e w6 ⟨rfl, hb6⟩; have HP6 := Lib.hid (HP5.out.below hb6); have k6 := HP6.out.box.three.1; rw [hKD2.out] at k6; clear hb6)
                        | (go_at_call 59; (with_reducible refine (FB.out _).mono ?_); rintro e w7 ⟨a7, c7, rfl, HF7, HB7, -⟩; rw [hm6.out]; have HP7 := Lib.hid (HP6.out.below HB7.out))
                        | (go_at_call 56; (with_reducible refine (JU.out _ _ _ HF7.out).mono ?_); rintro e w8 ⟨rfl, hb8⟩; have HP8 := Lib.hid (HP7.out.below hb8); clear hb8)
                        | (refine wpList_buildTo rfl 41 _ rfl (some 104) rfl zeroC.val (by as_aux_lemma => kernel_rfl) ?_)
                        | (refine store_cmd rfl (.tmp 2) (.tmp 104) rfl rfl rb zeroC zeroC rfl rfl HP8.out.res ?_))
                        try simp only [Exit.inBlock, Exit.then]
                        exact bodyPost_ret (v := .tuple #[.agg zeroC.val, .int .i64 2]) (ret_cmd rfl _ _ rb zeroC _ rfl rfl (setRow_cmd _ HP8.out.res)) rfl (GivesP.no HR.out HP8.out.no)
                      | true =>
                        obtain ⟨i9, hi9⟩ := isIn_place hII.out
                        have HON : Hid (O = fieldsV (d.set i9 n6) (seen ++ [a]) (R.drop (k + 1 - 1))) := by
                          show _ = _
                          rw [HOF3.out, HN6.out, hi9]
                          rfl
                        have ES : Hid (∀ W, Lies W c → Calls Tryz.prog 60 #[.agg c.val, .string (bs a), .int .i64 n6] W (GivesC c (setV c (bs a) n6) (place (bs a)).isSome W)) := fun W h => EU.out c (bs a) n6 W h
                        have HV9 : Hid (setV c (bs a) n6 = c.set i9 n6) := by show _ = _; unfold setV; rw [hi9]
                        go_upto_region 25 with (first
                          | (go_at_call 58; (with_reducible refine (NB2.out _).mono ?_); rintro e w6 ⟨rfl, hb6⟩; have HP6 := Lib.hid (HP5.out.below hb6); have k6 := HP6.out.box.three.1; rw [hKD2.out] at k6; clear hb6)
                          | (go_at_call 59; (with_reducible refine (FB.out _).mono ?_); rintro e w7 ⟨a7, c7, rfl, HF7, HB7, -⟩; rw [hm6.out]; have HP7 := Lib.hid (HP6.out.below HB7.out))
                          | (go_at_call 56; (with_reducible refine (JU.out _ _ _ HF7.out).mono ?_); rintro e w8 ⟨rfl, hb8⟩; have HP8 := Lib.hid (HP7.out.below hb8); clear hb8))
                        go_upto_region 26 with (first
                          | (refine load_cmd rfl (.tmp 5) rfl cb rfl c HP8.out.box ?_)
                          | (go_at_call 60; (with_reducible refine (ES.out _ HP8.out.lies).mono ?_); rintro e w9 ⟨c9, rfl, HE9, HL9, HB9, HF9⟩; have HP9 := Lib.hid (HP8.out.below HB9.out); have HZ9 : Hid ((w9.alloc (.cells zeroC.val 41)).heap[w9.heap.size]? = some (.cells zeroC.val 41 (0, 0))) := Own.heap_new _ _)
                          | (refine store_cmd rfl (.tmp 15) (.tmp 110) rfl rfl w9.heap.size c9 zeroC rfl rfl HZ9.out ?_))
                        refine Cmd.wp_named fun V1 hV1 => ?_
                        have hV2 : V1 = (w9.alloc (.cells zeroC.val 41)).setRow w9.heap.size c9.val := hV1
                        have HS9 : Hid (Stand V1 w9.heap.size c9) := by rw [hV2]; exact Cmd.stand_of_heap (setRow_cmd _ HZ9.out)
                        have hgrow := setRow_grown (w9.alloc (.cells zeroC.val 41)) w9.heap.size c9.val
                        rw [← hV2] at hgrow
                        have hbV1 : Below w9.heap.size w9 V1 := (below_al (Below.refl w9.heap.size w9) _).grown hgrow (by simp) (fun k hk => by cases hk; exact Nat.le_refl _)
                        have HPV := Lib.hid (HP9.out.below hbV1)
                        have HC9 := Lib.hid HPV.out.box.heap
                        have HEN : Hid (Eqv c9 (d.set i9 n6)) := by
                          have h1 := HE9.out
                          rw [HV9.out] at h1
                          refine ⟨h1.kind.trans HE.out.kind, ?_, h1.gives.trans HE.out.gives, h1.wants.trans HE.out.wants⟩
                          rw [h1.num]
                          unfold CmdIn.set
                          dsimp only
                          rw [HE.out.num]
                        have HPN : Hid (PS w L (V1.setRow cb c9.val) rb cb c9 (.slice (some ⟨g5, 0, none⟩) (seen.length + 1) cap5) (seen ++ [a])) := by
                          have h1 := HE9.out
                          rw [HV9.out] at h1
                          have fresh : ∀ x : Addr, w8.heap.size ≤ x.block → some x.block ≠ Value.ownBlock (.slice (some ⟨g5, 0, none⟩) (seen.length + 1) cap5) ∧ x.block ≠ cb ∧ x.block ≠ rb ∧ w.heap.size ≤ x.block := fun x hx => by
                            have h2 := HP8.out.num
                            have h3 := HP8.out.le
                            have h4 := (HP8.out.own.lt g5 rfl).2
                            refine ⟨fun e => ?_, by omega, by omega, by omega⟩
                            have e1 : x.block = g5 := Option.some.inj e
                            omega
                          refine HPV.out.set (HL9.out.below hbV1) (fun x hx => ?_) (Cmd.stand_of_heap (setRow_cmd _ HC9.out)) (setRow_grown _ _ _)
                          rcases hx with ⟨h, e⟩ | ⟨h, e⟩
                          · rcases HF9.out.1 x e with e2 | e2
                            · exact HP8.out.far x (Or.inl ⟨by rw [h1.gives] at h; exact h, e2⟩)
                            · exact fresh x e2
                          · rcases HF9.out.2 x e with e2 | e2
                            · exact HP8.out.far x (Or.inr ⟨by rw [h1.wants] at h; exact h, e2⟩)
                            · exact fresh x e2
                        clear hV1 hV2 hgrow hbV1
                        go_wp2_with (first
                          | (refine load_cmd rfl (.tmp 15) rfl w9.heap.size rfl c9 HS9.out ?_)
                          | (refine store_cmd rfl (.tmp 5) (.tmp 112) rfl rfl cb c9 c rfl rfl HC9.out ?_))
                        go_roundw
                        case rel => exact ⟨k + 1, c9, d.set i9 n6, seen ++ [a], by omega, by omega, by go_num, HPN, HEN, HSN2, HON⟩
                        case measure => simp [intOf]; omega
          · have dk : decide ((k : Int) < (N : Int)) = false := decide_eq_false (by omega)
            have hlt1 : ¬ (k : Int) < (N : Int) := by omega
            have HR : Hid (O = some d) := by
              show _ = _
              rw [HOF.out, List.drop_eq_nil_of_le (by have := hR1.out; omega)]
              rfl
            go_wp2_with (first
              | (refine load_cmd rfl (.tmp 113) rfl cb rfl c HP.out.box ?_)
              | (refine load_cmd rfl (.tmp 5) rfl cb rfl c HP.out.box ?_)
              | (refine store_cmd rfl (.tmp 2) (.tmp 113) rfl rfl rb c zeroC rfl rfl HP.out.res ?_))
            try simp only [Exit.inBlock, Exit.then]
            exact bodyPost_ret (v := .tuple #[.agg c.val, .int .i64 0]) (ret_cmd rfl _ _ rb c _ rfl rfl (setRow_cmd _ HP.out.res)) rfl (HP.out.yes HR.out HE.out)
end Asm
end Go.Proofs.YtlhalhilnkneeaaGreatDoor
end
section
namespace Go.Proofs.YtlhalhilnkneeaaGreatDoor
open Go.RowKit Go.Great
namespace Rep
open Pen (bs bs_append uintB intB I64 intS uintS doneS)
open Go.Lib (decDigits itoa)
theorem rep_len (r : RepIn) : (uintB r.err).length ≤ 10 ∧ (intB r.id).length ≤ 10 ∧ (intB r.n).length ≤ 10 ∧ (intB r.st).length ≤ 10 ∧ (intB r.ti).length ≤ 10 := ⟨Pen.uintB_len _, Pen.intB_len _, Pen.intB_len _, Pen.intB_len _, Pen.intB_len _⟩
end Rep
end Go.Proofs.YtlhalhilnkneeaaGreatDoor
end
section
namespace Go.Proofs.YtlhalhilnkneeaaGreatDoor
open Go.RowKit Go.Great Go.Sort
namespace Rep
open Pen (bs bs_append uintB intB I64 intS uintS doneS)
open Go.Lib (decDigits itoa)
/-- The library's tables are laid. -/
structure Tab (w : World) : Prop where
  sp : Lib.TabIs Tryz.prog w "strings.asciiSpace" .u8 Lib.asciiSpaceTab
  pw : Lib.TabIs Tryz.prog w "internal/strconv.uint64pow10" .u64 Lib.pow10Tab
theorem tab_below {name : String} {k : IntKind} {zs : List Int} {g : Nat} {w w' : World} (hgn : Tryz.prog.globalNamed name = some g) (h : Lib.TabIs Tryz.prog w name k zs) (hb : Below w.heap.size w w') : Lib.TabIs Tryz.prog w' name k zs := by
  unfold Lib.TabIs World.var? at h ⊢
  rw [hgn] at h ⊢
  simp only [Option.bind_some] at h ⊢
  have hlt : g < w.heap.size := by
    rcases Nat.lt_or_ge g w.heap.size with h' | h'
    · exact h'
    · rw [Array.getElem?_eq_none h'] at h; cases h
  rw [hb.block _ hlt]
  exact h
theorem Tab.below {w w' : World} (h : Tab w) (hb : Below w.heap.size w w') : Tab w' :=
  ⟨tab_below (g := 0) (by kernel_rfl) h.sp hb, tab_below (g := 5) (by kernel_rfl) h.pw hb⟩
theorem itoa_any (x : Int) (h : I64 x) (W : World) (hW : Tab W) : Calls Tryz.prog 67 #[.int .i64 x] W fun e w' => e = .returned (.string (bs (itoa x))) ∧ Below W.heap.size W w' := by
  refine (Tryz.strconv_Itoa x h.1 h.2 W hW.pw).mono ?_
  rintro e w' ⟨rfl, k, os, rfl⟩
  refine ⟨rfl, ⟨rfl, rfl, rfl, ?_, fun i hi => ?_⟩⟩
  · simp [grow]
  · show ((W.drewN k).heap ++ os)[i]? = _
    rw [Array.getElem?_append_left (by show i < W.heap.size; exact hi)]
    rfl
/-- The text of all words. -/
def wordsB : List UInt8 := (List.intersperse [32] wdL).flatten
theorem words_fields : Lib.fields wordsB = wdL := by decide +kernel
theorem words_ascii : ∀ b ∈ wordsB, b.toNat < 128 := by decide +kernel
theorem words_len : wordsB.length < 1000 := by decide +kernel
theorem wd_len : wdL.length = 15 := rfl
theorem fields_any (W : World) (hW : Tab W) : Calls Tryz.prog 110 #[.string (bs wordsB)] W fun e w' => e = .returned (.slice (some ⟨W.heap.size, 0, none⟩) 15 15) ∧ Hid (∀ k, k < 15 → w'.cell? ⟨W.heap.size, k, none⟩ = some (.string (bs (wdL.getD k [])))) ∧ Hid (Below W.heap.size W w') := by
  have h := Tryz.strings_Fields_laid (bs wordsB) W (by rw [Pen.bs_size]; have := words_len; omega) (fun j b hb => words_ascii b (List.mem_of_getElem? hb)) hW.sp
  refine h.mono ?_
  rintro e w' ⟨rfl, rfl⟩
  have e1 : Lib.fields (bs wordsB).data.toList = wdL := words_fields
  rw [e1]
  refine ⟨rfl, fun k hk => ?_, below_al (Below.refl _ _) _⟩
  have e2 : (wdL.map fun l => Value.string ⟨l.toArray⟩).toArray[k]? = some (.string (bs (wdL.getD k []))) := by
    rw [List.getElem?_toArray, List.getElem?_map, List.getD_eq_getElem?_getD, List.getElem?_eq_getElem (by rw [wd_len]; exact hk)]
    rfl
  have := heap_alloc_new W (.cells ((wdL.map fun l => Value.string ⟨l.toArray⟩).toArray) 9)
  unfold World.cell?
  rw [this]
  simpa using e2
/-- The numbers' words, one more at a time. -/
structure Grows (r : RepIn) (T1 T2 T3 T4 : List UInt8) : Prop where
  t1 : T1 = [111, 107] ++ part nmId r.id
  t2 : T2 = T1 ++ part nmN r.n
  t3 : T3 = T2 ++ part nmSt r.st
  t4 : T4 = T3 ++ part nmTi r.ti
theorem part_len (nm : List UInt8) (x : Int) (h : I64 x) (hn : nm.length ≤ 10) : (part nm x).length ≤ 40 := by
  unfold part
  split
  · simp
  · have := Lib.itoa_length_le x h.1 h.2
    simp
    omega
theorem Grows.len {r : RepIn} {T1 T2 T3 T4 : List UInt8} (h : Grows r T1 T2 T3 T4) (hr : Rok r) : T1.length ≤ 200 ∧ T2.length ≤ 200 ∧ T3.length ≤ 200 ∧ T4.length ≤ 200 := by
  obtain ⟨-, r1, r2, r3, r4⟩ := hr
  have l1 := part_len nmId r.id r1 (by decide)
  have l2 := part_len nmN r.n r2 (by decide)
  have l3 := part_len nmSt r.st r3 (by decide)
  have l4 := part_len nmTi r.ti r4 (by decide)
  rw [h.t4, h.t3, h.t2, h.t1]
  simp
  omega
theorem grows_ok {r : RepIn} {T1 T2 T3 T4 : List UInt8} (h : Grows r T1 T2 T3 T4) : okT r = T4 := by
  rw [h.t4, h.t3, h.t2, h.t1]
  unfold okT
  simp
theorem part_no (nm : List UInt8) {x : Int} (h : x = 0) (T : List UInt8) : T ++ part nm x = T := by
  unfold part
  rw [if_pos h, List.append_nil]
end Rep
end Go.Proofs.YtlhalhilnkneeaaGreatDoor
end
section
set_option maxRecDepth 100000
namespace Go.Proofs.YtlhalhilnkneeaaGreatDoor
open Go.RowKit Go.Great Go.Sort
namespace Asm
open Go.Lib (decDigits itoa)
open Pen (bs)
open In (strVals Strs)
open Frm (rows)
open Rec (below2 below_al below_dN Stk Stks stkVals)
open Cmd (Gives)
/-- What stands in the world that the library reads. -/
structure Env (w : World) : Prop where
  tab : Rep.Tab w
  syn : ∃ tp p, w.var? Tryz.prog "strconv.ErrSyntax" = some #[.iface tp p]
  ran : ∃ tp p, w.var? Tryz.prog "strconv.ErrRange" = some #[.iface tp p]
  mx : ∃ m, w.cell? ⟨1, 0, none⟩ = some (.int .i64 m)
theorem var_below {name : String} {x : Array Value} {g : Nat} {w w' : World} (hgn : Tryz.prog.globalNamed name = some g) (h : w.var? Tryz.prog name = some x) (hb : Below w.heap.size w w') : w'.var? Tryz.prog name = some x := by
  unfold World.var? at h ⊢
  rw [hgn] at h ⊢
  simp only [Option.bind_some] at h ⊢
  have hlt : g < w.heap.size := by
    rcases Nat.lt_or_ge g w.heap.size with h' | h'
    · exact h'
    · rw [Array.getElem?_eq_none h'] at h; cases h
  rw [hb.block _ hlt]
  exact h
theorem Env.below {w w' : World} (h : Env w) (hb : Below w.heap.size w w') : Env w' := by
  obtain ⟨t, ⟨a, b, hs⟩, ⟨c, d, hr⟩, m, hm⟩ := h
  refine ⟨t.below hb, ⟨a, b, var_below (g := 6) (by kernel_rfl) hs hb⟩, ⟨c, d, var_below (g := 7) (by kernel_rfl) hr hb⟩, m, ?_⟩
  have hlt : 1 < w.heap.size := by
    rcases Nat.lt_or_ge 1 w.heap.size with h' | h'
    · exact h'
    · unfold World.cell? at hm
      rw [Array.getElem?_eq_none h'] at hm; cases hm
  exact (hb.cell (p := ⟨1, 0, none⟩) hlt).trans hm
/-- What is parsed of a text. -/
def ParRes (l : List UInt8) (w : World) (e : Ending) (w' : World) : Prop := ((∃ v, Hid (Lib.parseIntB 64 l = .ok v) ∧ e = .returned (.tuple #[.int .i64 v, .nilIface])) ∨ (Hid (numL l = none) ∧ ∃ x tp p, e = .returned (.tuple #[.int .i64 x, .iface tp p]))) ∧ Below w.heap.size w w'
theorem parse_any (l : List UInt8) (hl : l.length ≤ 1000000) (W : World) (hE : Env W) : Calls Tryz.prog 132 #[.string (bs l), .int .i64 10, .int .i64 64] W (ParRes l W) := by
  have hz : (bs l).size = l.length := Pen.bs_size l
  have hd : (bs l).data.toList = l := rfl
  cases hp : Lib.parseIntB 64 l with
  | ok v =>
    refine (Tryz.strconv_ParseInt_10_at64_ok (bs l) (by omega) v (by rw [hd]; exact hp) W).mono ?_
    rintro e w' ⟨rfl, hw⟩
    refine ⟨Or.inl ⟨v, hp, rfl⟩, ?_⟩
    rcases hw with rfl | ⟨t, rfl⟩
    · exact Below.refl _ _
    · exact Crc.bytesWorld_below _ _ _
  | range =>
    obtain ⟨tp, p, hs⟩ := hE.ran
    refine (Tryz.strconv_ParseInt_10_at64_range_var (bs l) (by omega) (by rw [hd]; exact hp) tp p W hs).mono ?_
    rintro e w' ⟨N, rfl, -, -, hb⟩
    refine ⟨Or.inr ⟨(by show numL l = none; unfold numL; rw [hp]), _, _, _, rfl⟩, hb⟩
  | _ =>
    obtain ⟨tp, p, hs⟩ := hE.syn
    refine (Tryz.strconv_ParseInt_10_at64_syntax_var (bs l) (by omega) (by rw [hd, hp]; intro v h; cases h) (by rw [hd, hp]; intro h; cases h) tp p W hs).mono ?_
    rintro e w' ⟨N, rfl, -, -, hb⟩
    refine ⟨Or.inr ⟨(by show numL l = none; unfold numL; rw [hp]), _, _, _, rfl⟩, hb⟩
theorem grow_below (W : World) (k : Nat) (os : Array Obj) : Below W.heap.size W (grow (W.drewN k) os) := by
  refine ⟨rfl, rfl, rfl, ?_, fun i hi => ?_⟩
  · simp [grow]
  · show ((W.drewN k).heap ++ os)[i]? = _
    rw [Array.getElem?_append_left (by show i < W.heap.size; exact hi)]
    rfl
theorem format_any (x : Int) (h : Pen.I64 x) (W : World) (hE : Env W) : Calls Tryz.prog 133 #[.int .i64 x, .int .i64 10] W fun e w' => e = .returned (.string (bs (itoa x))) ∧ Below W.heap.size W w' := by
  refine (Tryz.strconv_FormatInt_10 x h.1 h.2 W hE.tab.pw).mono ?_
  rintro e w' ⟨rfl, k, os, rfl⟩
  exact ⟨rfl, grow_below _ _ _⟩
theorem split_any (l : List UInt8) (b : UInt8) (hl : l.length ≤ 1000000) (W : World) (hE : Env W) : Calls Tryz.prog 24 #[.string (bs l), .string (bs [b])] W (Gives (rows (splitL b l)) W) := by
  obtain ⟨m, hm⟩ := hE.mx
  have hz : (bs l).size = l.length := Pen.bs_size l
  refine (Tryz.strings_Split (bs l) (bs [b]) m W (by omega) hm (by rw [Pen.bs_size]; exact Nat.le_refl _)).mono ?_
  rintro e w' ⟨rfl, rfl⟩
  have h1 : Lib.splitB (bs [b]) 0 (Lib.countB (bs l) (bs [b])) (bs l) = rows (splitL b l) := by
    have h2 := split_data b (bs l)
    rw [show (bs l).data.toList = l from rfl] at h2
    rw [← h2]
    unfold Frm.rows
    rw [List.map_map]
    exact (List.map_id _).symm
  have h3 : Lib.countB (bs l) (bs [b]) + 1 = (rows (splitL b l)).length := by
    rw [rows_len, splitL_len]
    show Lib.count l [b] + 1 = _
    rw [Lib.count_one]
  rw [h1, h3]
  refine ⟨some ⟨W.heap.size, 0, none⟩, _, rfl, Cmd.strs_new rfl _ _, below_al (Below.refl _ _) _, fun x hx => ?_⟩
  cases hx
  exact Nat.le_refl _
theorem cut_any (l : List UInt8) (b : UInt8) (hl : l.length ≤ 1000000) (W : World) (hE : Env W) : Calls Tryz.prog 52 #[.string (bs l), .string (bs [b])] W fun e w' => e = .returned (.tuple #[.string (bs (cutS b l).1), .string (bs (cutS b l).2.1), .bool (cutS b l).2.2]) ∧ Below W.heap.size W w' := by
  obtain ⟨m, hm⟩ := hE.mx
  have hz : (bs l).size = l.length := Pen.bs_size l
  refine (Tryz.strings_Cut (bs l) (bs [b]) m W (by omega) hm).mono ?_
  rintro e w' ⟨rfl, n, rfl⟩
  have h1 : Lib.cut (bs l).data.toList (bs [b]).data.toList = cutS b l := by
    show Lib.cut l [b] = _
    rw [cut_eq]
    unfold cutS
    cases cutL b l <;> rfl
  rw [h1]
  exact ⟨rfl, below_dN (Below.refl _ _) n⟩
end Asm
end Go.Proofs.YtlhalhilnkneeaaGreatDoor
end
section
namespace Go.Proofs.YtlhalhilnkneeaaGreatDoor
open Go.RowKit Go.Great
namespace Cmd
open Pen (bs bs_append uintB intB I64 intS uintS doneS)
open In (Strs)
open Rec (below2 below_al below_dN Stk Stks stkVals stkVals_append stks_of_own)
def fewB (c : CmdIn) : Bool := decide ((c.gives.length : Int) ≤ 12) && decide ((c.wants.length : Int) ≤ 12)
theorem fewB_le {c : CmdIn} (h : fewB c = true) : c.gives.length ≤ 100 ∧ c.wants.length ≤ 100 := by
  unfold fewB at h
  rw [Bool.and_eq_true, decide_eq_true_eq, decide_eq_true_eq] at h
  omega
end Cmd
end Go.Proofs.YtlhalhilnkneeaaGreatDoor
end
