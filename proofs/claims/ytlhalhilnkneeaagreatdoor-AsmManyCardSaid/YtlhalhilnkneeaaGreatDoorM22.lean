/- Texts put together: AskA, AskB, AskC. -/
import Derived.Test.YtlhalhilnkneeaaGreatDoorM21
set_option linter.all false
section
set_option maxRecDepth 100000
namespace Go.Proofs.YtlhalhilnkneeaaGreatDoor
open Go.RowKit Go.Great Go.Sort
namespace Asm
open Pen (bs)
open In (strVals Strs)
open Frm (rows)
open Rec (below2 below_al below_dN Stk Stks stkVals)
open Cmd (Gives Snum CmdIn fi fn nm place chkV Cok Lies Stand Eqv zeroC kindOf load_cmd store_cmd ret_cmd setRow_cmd GivesC setV stand_new val_get size_val)
theorem lines_drop {LS : List (List UInt8)} {k : Nat} (h : k < LS.length) : LS.drop k = LS.getD k [] :: LS.drop (k + 1) := by
  rw [List.drop_eq_getElem_cons h, List.getD_eq_getElem?_getD, List.getElem?_eq_getElem h]
  rfl
/-- A command's box that was just made. -/
theorem box_new (W : World) (c : CmdIn) : Stand ((W.alloc (.cells zeroC.val 41)).setRow W.heap.size c.val) W.heap.size c ∧ Below W.heap.size W ((W.alloc (.cells zeroC.val 41)).setRow W.heap.size c.val) := by
  have hz : (W.alloc (.cells zeroC.val 41)).heap[W.heap.size]? = some (.cells zeroC.val 41 (0, 0)) := Own.heap_new _ _
  exact ⟨Cmd.stand_of_heap (setRow_cmd _ hz), (below_al (Below.refl W.heap.size W) _).grown (setRow_grown _ _ _) (by simp) (fun k hk => by cases hk; exact Nat.le_refl _)⟩
set_option maxHeartbeats 8000000 in
theorem refScript_any (s : ByteArray) (hs : s.size ≤ 1000000) (w : World) : Calls Tryz.prog 9 #[.string s] w (GivesS (scriptV s.data.toList) w) := by
  have hlen : s.data.toList.length = s.size := by simp
  by_cases h1 : 65536 < s.size
  · have g1 : (65536 : Int) < (s.size : Int) := by omega
    have hV : scriptV s.data.toList = ([], 0, 1) := by unfold scriptV; rw [if_pos (by omega)]
    rw [hV]
    go_enter Tryz.func9, Tryz.ntmps9
    go_wp2
    go_ret3
    exact ⟨_, [], rfl, OC.nil _ _, trivial, Below.refl _ _⟩
  · have g1 : ¬ (65536 : Int) < (s.size : Int) := by omega
    have SP : Hid (∀ W, Calls Tryz.prog 28 #[.string s, .int .u8 10] W (Gives (rows (splitL 10 s.data.toList)) W)) := fun W => refSplit_any s 10 hs W
    obtain ⟨LN, hLN⟩ : ∃ LN, Hid (splitL 10 s.data.toList = LN) := ⟨_, rfl⟩
    have hV : Hid (scriptV s.data.toList = scriptTo 0 [] LN) := by show _ = _; unfold scriptV; rw [if_neg (by omega), hLN.out]
    obtain ⟨O, hO⟩ : ∃ O, Hid (scriptV s.data.toList = O) := ⟨_, rfl⟩
    rw [hO.out] at hV
    rw [hO.out]
    rw [hLN.out] at SP
    obtain ⟨N, hN⟩ : ∃ N, Hid ((rows LN).length = N) := ⟨_, rfl⟩
    have hN2 : Hid (LN.length = N) := by rw [← hN.out]; exact (rows_len LN).symm
    have hNb : N ≤ 65537 := by
      have h2 := List.count_le_length (a := (10 : UInt8)) (l := s.data.toList)
      have h3 := splitL_len 10 s.data.toList
      rw [hLN.out, hN2.out] at h3
      omega
    have LB : Hid (∀ p ∈ LN, p.length ≤ 1000000) := fun p hp => by
      have := splitL_mem 10 s.data.toList p (by rw [hLN.out]; exact hp)
      omega
    have WD : Hid (∀ (l : List UInt8), l.length ≤ 1000000 → ∀ W, Calls Tryz.prog 29 #[.string (bs l)] W (Gives (rows (wordsL l)) W)) := fun l hl W => refWords_any (bs l) (by rw [Pen.bs_size]; exact hl) W
    have PA : Hid (∀ (l : List UInt8), l.length ≤ 1000000 → ∀ W, Calls Tryz.prog 30 #[.string (bs l)] W (GivesP (parseO l) W)) := fun l hl W => refParse_any (bs l) (by rw [Pen.bs_size]; exact hl) W
    clear hs h1 hlen
    go_enter Tryz.func9, Tryz.ntmps9
    go_wp2_with (go_at_call 28; (with_reducible refine (SP.out _).mono ?_); rintro e w1 ⟨la, lc, rfl, HS1, HB1, -⟩; rw [hN.out])
    go_loopw [6, 7] (fun v i wr => ∃ (k : Nat) (l m : List CmdIn), k ≤ N ∧ i = .int .i64 (k : Int) ∧ Hid (LS w1.heap.size w1 wr v l) ∧ Hid (EqvL l m) ∧ Hid (O = scriptTo k m (LN.drop k)) ∧ Hid (m.length ≤ 4096)) (fun _ i _ => N - (intOf i).toNat)
    case atStart => exact ⟨0, [], [], Nat.zero_le _, rfl, LS.nil w1, trivial, hV.out, Nat.zero_le _⟩
    case round =>
      obtain ⟨k, l, m, hkN, rfl, HL, HE, HO, HM⟩ := hrel
      have HLL : Hid (l.length = m.length) := HE.out.length
      by_cases hlt : k < N
      · have dk : decide ((k : Int) < (N : Int)) = true := decide_eq_true (by omega)
        have hlt1 : (k : Int) < (N : Int) := by omega
        have hkL : k < LN.length := by rw [hN2.out]; exact hlt
        have hPm : LN.getD k [] ∈ LN := by rw [List.getD_eq_getElem?_getD, List.getElem?_eq_getElem hkL]; exact List.getElem_mem _
        have hPl := LB.out _ hPm
        obtain ⟨b0, off0, rfl, hb0, hc⟩ := HS1.out k (by rw [hN.out]; exact hlt)
        rw [rows_getD] at hc
        have hcw : wr.cell? ⟨b0, off0 + k, none⟩ = some (.string (bs (LN.getD k []))) := (HL.out.bel.cell (p := ⟨b0, off0 + k, none⟩) hb0).trans hc
        have HOS : Hid (O = _) := HO.out.trans (by rw [lines_drop hkL, scriptTo])
        clear hPm hc HO
        generalize LN.getD k [] = P at *
        have WP := Lib.hid (WD.out P hPl)
        have PP := Lib.hid (PA.out P hPl)
        rw [skip_words] at HOS
        obtain ⟨WS, hWS⟩ : ∃ WS, Hid (wordsL P = WS) := ⟨_, rfl⟩
        rw [hWS.out] at HOS WP
        cases hw : WS with
        | nil =>
          rw [hw] at HOS WP
          have HON : Hid (O = scriptTo (k + 1) m (LN.drop (k + 1))) := by show _ = _; rw [HOS.out]; rfl
          clear hw HOS
          go_wp2_with (go_at_call 29; (with_reducible refine (WP.out _).mono ?_); rintro e w2 ⟨wa, wc, rfl, HSW, HBW, -⟩; rw [show (rows ([] : List (List UInt8))).length = 0 from rfl]; have HL2 := Lib.hid (HL.out.below HBW.out))
          go_roundw
          case rel => exact ⟨k + 1, l, m, by omega, by go_num, HL2, HE, HON, HM⟩
          case measure => simp [intOf]; omega
        | cons p0 R0 =>
          have hp0 : p0 ≠ [] := by
            have : p0 ∈ wordsL P := by rw [hWS.out, hw]; exact List.mem_cons_self ..
            unfold wordsL at this
            simpa using (List.mem_filter.1 this).2
          obtain ⟨x0, t0, rfl⟩ := List.exists_cons_of_ne_nil hp0
          rw [hw] at HOS WP
          obtain ⟨n0, hn0⟩ : ∃ n0, Hid ((rows ((x0 :: t0) :: R0)).length = n0) := ⟨_, Lib.hid rfl⟩
          have hn1 : 1 ≤ n0 := by rw [← hn0.out, rows_len]; exact Nat.succ_pos _
          have hnz : ¬ (n0 : Int) = 0 := by omega
          have hnb : ((n0 : Int) == 0) = false := by simp; omega
          have h0n : (0 : Int) < (n0 : Int) := by omega
          have hX : ∀ h : 0 < (bs (x0 :: t0)).size, ((bs (x0 :: t0))[0]'h) = x0 := fun h => rfl
          have hz0 : (bs (x0 :: t0)).size = t0.length + 1 := by rw [Pen.bs_size]; rfl
          have hi0 : (0 : Int) < ((bs (x0 :: t0)).size : Int) := by omega
          have WQ : Hid (∀ W, Calls Tryz.prog 29 #[.string (bs P)] W fun e w' => ∃ b o c, e = .returned (.slice (some ⟨b, o, none⟩) n0 c) ∧ Hid (w'.cell? ⟨b, o, none⟩ = some (.string (bs (x0 :: t0)))) ∧ Hid (Below W.heap.size W w')) := fun W => (WP.out W).mono fun e w' ⟨a, c, h1, h2, h3, _⟩ => by
            obtain ⟨b, o, e1, _, hc⟩ := h2.out 0 (by rw [hn0.out]; exact hn1)
            subst e1
            rw [hn0.out] at h1
            exact ⟨b, o, c, h1, hc, h3⟩
          clear hw WP
          by_cases h35 : x0 = 35
          · have HON : Hid (O = scriptTo (k + 1) m (LN.drop (k + 1))) := by show _ = _; rw [HOS.out, h35]; rfl
            have b35 : ((x0.toNat : Int) == 35) = true := by rw [h35]; rfl
            clear HOS h35
            go_wp2_with (go_at_call 29; (with_reducible refine (WQ.out _).mono ?_); rintro e w2 ⟨qb, qo, qc, rfl, hcq, HBW⟩; have hcq2 := hcq.out; have HL2 := Lib.hid (HL.out.below HBW.out))
            go_roundw
            case rel => exact ⟨k + 1, l, m, by omega, by go_num, HL2, HE, HON, HM⟩
            case measure => simp [intOf]; omega
          · have hsk : ((x0 :: t0).head? == some 35) = false := by simp [h35]
            have HOT : Hid (O = match parseO P with
              | none => ([], (k : Int) + 1, 2)
              | some c => if 4096 ≤ m.length then ([], (k : Int) + 1, 4) else scriptTo (k + 1) (m ++ [c]) (LN.drop (k + 1))) := by
              show _ = _
              rw [HOS.out]
              show (if ((x0 :: t0).head? == some 35) = true then _ else _) = _
              rw [hsk, if_neg (by decide)]
              cases parseO P <;> rfl
            have b35 : ((x0.toNat : Int) == 35) = false := by
              rw [beq_eq_false_iff_ne]
              intro e
              exact h35 (UInt8.toNat_inj.1 (by show x0.toNat = 35; omega))
            obtain ⟨va, vc, rfl, -⟩ := HL.out.oc.cmds
            clear hsk HOS
            cases hop : parseO P with
            | none =>
              rw [hop] at HOT PP
              have HR : Hid (O = ([], (k : Int) + 1, 2)) := HOT.out
              have PN : Hid (∀ W, Calls Tryz.prog 30 #[.string (bs P)] W fun e w' => ∃ c', e = .returned (.tuple #[.agg (CmdIn.val c'), .int .i64 2]) ∧ Hid (Below W.heap.size W w')) := fun W => (PP.out W).mono fun _ _ h => h.none_
              clear hop
              go_wp2_with (first
                | (go_at_call 29; (with_reducible refine (WQ.out _).mono ?_); rintro e w2 ⟨qb, qo, qc, rfl, hcq, HBW⟩; have hcq2 := hcq.out; have HL2 := Lib.hid (HL.out.below HBW.out); have hcw2 : w2.cell? ⟨b0, off0 + k, none⟩ = some (.string (bs P)) := (HBW.out.cell (p := ⟨b0, off0 + k, none⟩) (Nat.lt_of_lt_of_le hb0 HL.out.bel.size)).trans hcw)
                | (go_at_call 30; (with_reducible refine (PN.out _).mono ?_); rintro e w3 ⟨c3, rfl, HB3⟩; have HZ3 : Hid ((w3.alloc (.cells zeroC.val 41)).heap[w3.heap.size]? = some (.cells zeroC.val 41 (0, 0))) := Own.heap_new _ _)
                | (refine store_cmd rfl (.tmp 9) (.tmp 43) rfl rfl w3.heap.size c3 zeroC rfl rfl HZ3.out ?_))
              go_ret3
              refine ⟨_, [], by rw [HR.out]; go_num, OC.nil _ _, by rw [HR.out]; exact trivial, ?_⟩
              exact below2 HB1.out ((HL2.out.below (below2 HB3.out (box_new w3 c3).2)).bel)
            | some d =>
              rw [hop] at HOT PP
              have PY : Hid (∀ W, Calls Tryz.prog 30 #[.string (bs P)] W fun e w' => ∃ c', e = .returned (.tuple #[.agg (CmdIn.val c'), .int .i64 0]) ∧ Hid (Eqv c' d) ∧ Hid (Lies w' c') ∧ Hid (Below W.heap.size W w') ∧ Hid (∀ x, At c' x → W.heap.size ≤ x.block)) := fun W => (PP.out W).mono fun _ _ h => h.some_
              have HOU : Hid (O = if 4096 ≤ m.length then ([], (k : Int) + 1, 4) else scriptTo (k + 1) (m ++ [d]) (LN.drop (k + 1))) := HOT.out
              clear hop HOT PP
              by_cases hfull : 4096 ≤ l.length
              · have g4 : (4096 : Int) ≤ (l.length : Int) := by omega
                have HR : Hid (O = ([], (k : Int) + 1, 4)) := HOU.out.trans (if_pos (by have := HLL.out; omega))
                go_wp2_with (first
                  | (go_at_call 29; (with_reducible refine (WQ.out _).mono ?_); rintro e w2 ⟨qb, qo, qc, rfl, hcq, HBW⟩; have hcq2 := hcq.out; have HL2 := Lib.hid (HL.out.below HBW.out); have hcw2 : w2.cell? ⟨b0, off0 + k, none⟩ = some (.string (bs P)) := (HBW.out.cell (p := ⟨b0, off0 + k, none⟩) (Nat.lt_of_lt_of_le hb0 HL.out.bel.size)).trans hcw)
                  | (go_at_call 30; (with_reducible refine (PY.out _).mono ?_); rintro e w3 ⟨c3, rfl, HE3, HL3, HB3, HF3⟩; have HZ3 : Hid ((w3.alloc (.cells zeroC.val 41)).heap[w3.heap.size]? = some (.cells zeroC.val 41 (0, 0))) := Own.heap_new _ _)
                  | (refine store_cmd rfl (.tmp 9) (.tmp 43) rfl rfl w3.heap.size c3 zeroC rfl rfl HZ3.out ?_))
                go_ret3
                refine ⟨_, [], by rw [HR.out]; go_num, OC.nil _ _, by rw [HR.out]; exact trivial, ?_⟩
                exact below2 HB1.out ((HL2.out.below (below2 HB3.out (box_new w3 c3).2)).bel)
              · have g4 : ¬ (4096 : Int) ≤ (l.length : Int) := by omega
                have HON : Hid (O = scriptTo (k + 1) (m ++ [d]) (LN.drop (k + 1))) := HOU.out.trans (if_neg (by have := HLL.out; omega))
                have hl7 : l.length ≤ 10000000 := by omega
                have HM2 : Hid ((m ++ [d]).length ≤ 4096) := by show _ ≤ _; rw [List.length_append]; simp only [List.length_cons, List.length_nil]; have := HLL.out; omega
                go_upto_region 11 with (first
                  | (go_at_call 29; (with_reducible refine (WQ.out _).mono ?_); rintro e w2 ⟨qb, qo, qc, rfl, hcq, HBW⟩; have hcq2 := hcq.out; have HL2 := Lib.hid (HL.out.below HBW.out); have hcw2 : w2.cell? ⟨b0, off0 + k, none⟩ = some (.string (bs P)) := (HBW.out.cell (p := ⟨b0, off0 + k, none⟩) (Nat.lt_of_lt_of_le hb0 HL.out.bel.size)).trans hcw)
                  | (go_at_call 30; (with_reducible refine (PY.out _).mono ?_); rintro e w3 ⟨c3, rfl, HE3, HL3, HB3, HF3⟩; have HZ3 : Hid ((w3.alloc (.cells zeroC.val 41)).heap[w3.heap.size]? = some (.cells zeroC.val 41 (0, 0))) := Own.heap_new _ _)
                  | (refine store_cmd rfl (.tmp 9) (.tmp 43) rfl rfl w3.heap.size c3 zeroC rfl rfl HZ3.out ?_))
                refine Cmd.wp_named fun V hV => ?_
                have hV1 : V = (w3.alloc (.cells zeroC.val 41)).setRow w3.heap.size c3.val := hV
                obtain ⟨hs3, hb3⟩ := box_new w3 c3
                rw [← hV1] at hs3 hb3
                obtain ⟨g9, hg9⟩ : ∃ g, Hid (w3.heap.size = g) := ⟨_, rfl⟩
                rw [hg9.out] at hs3 ⊢
                obtain ⟨gV, hgV⟩ : ∃ g, V.heap.size = g := ⟨_, rfl⟩
                have HBV : Hid (Below w2.heap.size w2 V) := below2 HB3.out hb3
                obtain ⟨q1, q2, q3, q4, q5⟩ := HL2.out.step HBV.out (HL3.out.below hb3) HF3.out
                rw [hgV] at q2
                have HS3 := Lib.hid hs3
                have Q1 := Lib.hid q1
                have Q2 := Lib.hid q2
                have Q3 := Lib.hid q3
                have Q4 := Lib.hid q4
                have Q5 := Lib.hid q5
                clear hV hV1 hb3 hs3 q1 q2 q3 q4 q5
                go_wp2_with (first
                  | (refine load_cmd rfl (.tmp 9) rfl g9 rfl c3 HS3.out ?_)
                  | (refine build_cmd rfl (.tmp 55) rfl c3 rfl gV hgV ?_)
                  | (at_builtin; refine list_cmd1 rfl (.tmp 54) (.tmp 56) rfl w1.heap.size (.slice va l.length vc) l rfl gV 1 c3 rfl Q1.out Q2.out Q3.out Q4.out hl7 Q5.out ?_; intro g4 cap4 w4 hoc4 hgr4))
                have HLN : Hid (LS w1.heap.size w1 w4 (.slice (some ⟨g4, 0, none⟩) (l.length + 1) cap4) (l ++ [c3])) := HL2.out.next HBV.out hoc4 hgr4
                have HEN : Hid (EqvL (l ++ [c3]) (m ++ [d])) := EqvL.append HE.out ⟨HE3.out, trivial⟩
                clear hoc4 hgr4
                go_roundw
                case rel => exact ⟨k + 1, l ++ [c3], m ++ [d], by omega, by go_num, HLN, HEN, HON, HM2⟩
                case measure => simp [intOf]; omega
      · have dk : decide ((k : Int) < (N : Int)) = false := decide_eq_false (by omega)
        have hlt1 : ¬ (k : Int) < (N : Int) := by omega
        have HR : Hid (O = (m, 0, 0)) := by
          show _ = _
          rw [HO.out, List.drop_eq_nil_of_le (by have := hN2.out; omega)]
          rfl
        go_wp2
        go_ret3
        refine ⟨_, l, by rw [HR.out]; rfl, HL.out.oc.base HB1.out.size, by rw [HR.out]; exact HE.out, below2 HB1.out ?_⟩
        exact HL.out.bel
end Asm
end Go.Proofs.YtlhalhilnkneeaaGreatDoor
end
section
set_option maxRecDepth 100000
namespace Go.Proofs.YtlhalhilnkneeaaGreatDoor
open Go.RowKit Go.Great Go.Sort
namespace Asm
open Pen (bs)
open In (strVals Strs)
open Frm (rows oks allS allE cats)
open Rec (below2 below_al below_dN Stk Stks stkVals)
open Cmd (Gives Snum CmdIn fi fn nm place chkV Cok Lies Stand Eqv zeroC kindOf load_cmd store_cmd ret_cmd setRow_cmd GivesC setV stand_new val_get size_val cmdB putV Clear)
/-- Commands whose numbers are numbers. -/
def Okl (l : List CmdIn) : Prop := ∀ c ∈ l, Cok c ∧ Clear c
theorem Okl.eqv : ∀ {l m : List CmdIn}, EqvL l m → Okl m → Okl l
  | [], [], _, _ => fun c hc => by cases hc
  | a :: l, b :: m, h, ho => fun c hc => by
    rcases List.mem_cons.1 hc with rfl | hc
    · obtain ⟨h1, h2⟩ := ho b (List.mem_cons_self ..)
      obtain ⟨e1, e2, e3, e4⟩ := h.1
      exact ⟨⟨by rw [e1]; exact h1.kind, by rw [e2]; exact h1.num, by rw [e3]; exact h1.gives, by rw [e4]; exact h1.wants, by rw [e3, e4]; exact h1.few⟩, fun i hi => by rw [e2]; exact h2 i hi⟩
    · exact Okl.eqv h.2 (fun d hd => ho d (List.mem_cons_of_mem _ hd)) c hc
theorem Okl.good {l : List CmdIn} (h : Okl l) (hb : bad l = false) : ∀ c ∈ l, Good c := fun c hc => ⟨(h c hc).1, (h c hc).2, bad_not hb c hc⟩
theorem Okl.take {l : List CmdIn} (h : Okl l) (k : Nat) : Okl (l.take k) := fun c hc => h c (List.mem_of_mem_take hc)
theorem take_next (l : List CmdIn) (k : Nat) (h : k < l.length) : l.take (k + 1) = l.take k ++ [l.getD k zeroC] := by
  rw [List.take_add_one, List.getElem?_eq_getElem h, List.getD_eq_getElem?_getD, List.getElem?_eq_getElem h]
  rfl
theorem getD_in {l : List CmdIn} {k : Nat} (h : k < l.length) : l.getD k zeroC ∈ l := by
  rw [List.getD_eq_getElem?_getD, List.getElem?_eq_getElem h]
  exact List.getElem_mem _
theorem bad_next {l : List CmdIn} {k : Nat} (h : k < l.length) (hb : bad (l.take k) = false) (hc : chkV (l.getD k zeroC) = 0) : bad (l.take (k + 1)) = false := by
  rw [take_next l k h]
  refine bad_of fun c hm => ?_
  rcases List.mem_append.1 hm with hm | hm
  · exact bad_not hb c hm
  · rw [List.mem_singleton.1 hm]; exact hc
theorem bad_yes {l : List CmdIn} {k : Nat} (h : k < l.length) (hc : chkV (l.getD k zeroC) ≠ 0) : bad l = true := by
  unfold bad
  rw [List.any_eq_true]
  exact ⟨_, getD_in h, by simpa using hc⟩
theorem textT_next (l : List CmdIn) (k : Nat) (h : k < l.length) : textT (l.take (k + 1)) = textT (l.take k) ++ lineT (l.getD k zeroC) ++ [10] := by
  rw [take_next l k h]
  unfold textT
  rw [List.flatMap_append, List.flatMap_cons, List.flatMap_nil, List.append_nil, List.append_assoc]
theorem recs_next (l : List CmdIn) (k : Nat) (h : k < l.length) : (l.take (k + 1)).map recB = (l.take k).map recB ++ [recB (l.getD k zeroC)] := by
  rw [take_next l k h, List.map_append]
  rfl
set_option maxHeartbeats 4000000 in
theorem refText_any (a : Option Addr) (cap : Nat) (l : List CmdIn) (n : Nat) (hn : l.length = n) (hk : Okl l) (w : World) (ha : Cmds w a l) : Calls Tryz.prog 18 #[.slice a n cap] w fun e w' => e = .returned (.tuple #[.string (bs (textV l).1), .int .i64 (textV l).2]) ∧ Below w.heap.size w w' := by
  have HN := Lib.hid hn
  by_cases h1 : 4096 < n
  · have g1 : (4096 : Int) < (n : Int) := by omega
    have hV : textV l = ([], 1) := by unfold textV; rw [if_pos (by omega)]
    rw [hV]
    clear hn
    go_enter Tryz.func18, Tryz.ntmps18
    go_wp2
    go_ret2
    exact ⟨rfl, Below.refl _ _⟩
  · have g1 : ¬ (4096 : Int) < (n : Int) := by omega
    have HA := Lib.hid ha
    have HK := Lib.hid hk
    have LI : Hid (∀ (c : CmdIn) W, Lies W c → Cok c → Calls Tryz.prog 39 #[.agg c.val] W fun e w' => e = .returned (.tuple #[.string (bs (lineV c).1), .int .i64 (lineV c).2]) ∧ Below W.heap.size W w') := fun c W hl hc => refLine_any c W hl hc
    have hV : Hid (textV l = if bad l = true then ([], 1) else (textT l, 0)) := by show _ = _; unfold textV; rw [if_neg (by omega)]
    clear hn ha hk
    go_enter Tryz.func18, Tryz.ntmps18
    go_wp2
    go_loopw [4, 5] (fun v i wr => ∃ k : Nat, k ≤ n ∧ i = .int .i64 (k : Int) ∧ v = .string (bs (textT (l.take k))) ∧ Hid (bad (l.take k) = false) ∧ Hid (Below w.heap.size w wr)) (fun _ i _ => n - (intOf i).toNat)
    case atStart => exact ⟨0, Nat.zero_le _, rfl, rfl, Lib.hid rfl, Below.refl _ _⟩
    case round =>
      obtain ⟨k, hkN, rfl, rfl, HBd, HB⟩ := hrel
      by_cases hlt : k < n
      · have dk : decide ((k : Int) < (n : Int)) = true := decide_eq_true (by omega)
        have hlt1 : (k : Int) < (n : Int) := by omega
        have hkl : k < l.length := by rw [HN.out]; exact hlt
        obtain ⟨b, off, rfl, hb, hr, hl⟩ := (Cmds.below HA.out HB.out) k hkl
        have HR := Lib.hid hr
        have HLi := Lib.hid hl
        have HCk := Lib.hid (HK.out _ (getD_in hkl)).1
        have HTN := Lib.hid (textT_next l k hkl)
        have HBN := Lib.hid (fun h => bad_next hkl HBd.out h)
        have HBY := Lib.hid (fun h => bad_yes (l := l) hkl h)
        have htl := text_len (l.take k) ((HK.out.take k).good HBd.out)
        have htk : (l.take k).length ≤ k := by rw [List.length_take]; omega
        have LL := Lib.hid (fun h => line_len _ HCk.out h)
        have hts : (bs (textT (l.take k))).size ≤ 5000000 := by
          rw [Pen.bs_size]
          have : 1016 * (l.take k).length ≤ 1016 * 4096 := Nat.mul_le_mul_left _ (by omega)
          omega
        clear htl hr hl
        generalize l.getD k zeroC = c at *
        generalize textT (l.take k) = T at *
        have LC := Lib.hid (fun W hl => LI.out c W hl HCk.out)
        by_cases hc : chkV c = 0
        · have e : lineV c = (lineT c, 0) := by unfold lineV; rw [if_pos hc]
          rw [e] at LC
          have hll := LL.out hc
          have HBN2 := Lib.hid (HBN.out hc)
          have z1 : ¬ 9223372036854775807 < (bs T).size + (bs (lineT c)).size := by rw [Pen.bs_size (lineT c)]; omega
          have z2 : ¬ 9223372036854775807 < (bs T).size + (bs (lineT c)).size + 1 := by rw [Pen.bs_size (lineT c)]; omega
          have EE : Hid (bs T ++ bs (lineT c) ++ (⟨#[10]⟩ : ByteArray) = bs (textT (l.take (k + 1)))) := by
            show _ = _
            rw [HTN.out, show (⟨#[10]⟩ : ByteArray) = bs [10] from rfl, bs_add, bs_add]
          clear e
          go_wp2_with (first
            | (refine load_at rfl (.tmp 20) rfl _ _ rfl c HR.out ?_)
            | (go_at_call 39; (with_reducible refine (LC.out _ HLi.out).mono ?_); rintro e w2 ⟨rfl, hb2⟩; have HB2 := Lib.hid (below2 HB.out hb2); clear hb2))
          go_roundw
          case rel => exact ⟨k + 1, by omega, by go_num, by rw [← EE.out], HBN2, HB2⟩
          case measure => simp [intOf]; omega
        · have e : lineV c = ([], 1) := by unfold lineV; rw [if_neg hc]
          rw [e] at LC
          have HV2 : Hid (textV l = ([], 1)) := by show _ = _; rw [hV.out, if_pos (HBY.out hc)]
          clear e
          go_wp2_with (first
            | (refine load_at rfl (.tmp 20) rfl _ _ rfl c HR.out ?_)
            | (go_at_call 39; (with_reducible refine (LC.out _ HLi.out).mono ?_); rintro e w2 ⟨rfl, hb2⟩; have HB2 := Lib.hid (below2 HB.out hb2); clear hb2))
          go_ret2
          exact ⟨by rw [HV2.out]; rfl, HB2.out⟩
      · have dk : decide ((k : Int) < (n : Int)) = false := decide_eq_false (by omega)
        have hlt1 : ¬ (k : Int) < (n : Int) := by omega
        have htk : l.take k = l := List.take_of_length_le (by rw [HN.out]; omega)
        rw [htk] at HBd ⊢
        go_wp2
        go_ret2
        exact ⟨by rw [hV.out, if_neg (by rw [HBd.out]; decide)]; rfl, HB.out⟩
set_option maxHeartbeats 4000000 in
theorem refPack_any (a : Option Addr) (cap : Nat) (l : List CmdIn) (n : Nat) (hn : l.length = n) (hk : Okl l) (w : World) (ha : Cmds w a l) : Calls Tryz.prog 19 #[.slice a n cap] w fun e w' => e = .returned (.tuple #[.string (bs (packV l).1), .int .i64 (packV l).2]) ∧ Below w.heap.size w w' := by
  have HN := Lib.hid hn
  obtain ⟨i0, hi, hz0, hz1, hz2⟩ := info_parts Frm.sinfo
  by_cases h1 : 4096 < n
  · have g1 : (4096 : Int) < (n : Int) := by omega
    have hV : packV l = ([], 1) := by unfold packV; rw [if_pos (by omega)]
    rw [hV]
    clear hn
    go_enter Tryz.func19, Tryz.ntmps19
    go_wp2
    go_ret2
    exact ⟨rfl, Below.refl _ _⟩
  · have g1 : ¬ (4096 : Int) < (n : Int) := by omega
    have HA := Lib.hid ha
    have HK := Lib.hid hk
    have LI : Hid (∀ (c : CmdIn) W, Lies W c → Cok c → Calls Tryz.prog 40 #[.agg c.val] W fun e w' => e = .returned (.tuple #[.string (bs (putV c).1), .int .i64 (putV c).2]) ∧ Below W.heap.size W w') := fun c W hl hc => Cmd.refPut_any c W hl hc
    have hV : Hid (packV l = if bad l = true then ([], 1) else (packT l, 0)) := by show _ = _; unfold packV; rw [if_neg (by omega)]
    clear hn ha hk
    go_enter Tryz.func19, Tryz.ntmps19
    go_wp2
    go_loopw [4, 5] (fun v i wr => ∃ k : Nat, k ≤ n ∧ i = .int .i64 (k : Int) ∧ Hid (wr.ownsRow w.heap.size 9 1 v k (strVals ((l.take k).map recB))) ∧ Hid (bad (l.take k) = false) ∧ Hid (Below w.heap.size w wr)) (fun _ i _ => n - (intOf i).toNat)
    case atStart => exact ⟨0, Nat.zero_le _, rfl, World.ownsRow_nil _ _ _ _, Lib.hid rfl, Below.refl _ _⟩
    case round =>
      obtain ⟨k, hkN, rfl, HO, HBd, HB⟩ := hrel
      by_cases hlt : k < n
      · have dk : decide ((k : Int) < (n : Int)) = true := decide_eq_true (by omega)
        have hlt1 : (k : Int) < (n : Int) := by omega
        have hkl : k < l.length := by rw [HN.out]; exact hlt
        obtain ⟨b, off, rfl, hb, hr, hl⟩ := (Cmds.below HA.out HB.out) k hkl
        have HR := Lib.hid hr
        have HLi := Lib.hid hl
        have HCk := Lib.hid (HK.out _ (getD_in hkl)).1
        have HTN := Lib.hid (recs_next l k hkl)
        have HBN := Lib.hid (fun h => bad_next hkl HBd.out h)
        have HBY := Lib.hid (fun h => bad_yes (l := l) hkl h)
        clear hr hl
        generalize l.getD k zeroC = c at *
        have LC := Lib.hid (fun W hl => LI.out c W hl HCk.out)
        by_cases hc : chkV c = 0
        · have e : putV c = (cmdB c, 0) := by unfold putV; rw [if_pos hc]
          rw [e] at LC
          have HBN2 := Lib.hid (HBN.out hc)
          clear e
          go_wp2_with (first
            | (refine load_at rfl (.tmp 20) rfl _ _ rfl c HR.out ?_)
            | (go_at_call 40; (with_reducible refine (LC.out _ HLi.out).mono ?_); rintro e w2 ⟨rfl, hb2⟩; have HB2 := Lib.hid (below2 HB.out hb2); have HO2 := Lib.hid (Own.own_below HO.out hb2); clear hb2)
            | (at_builtin; refine Own.list_one rfl (.tmp 28) (.tmp 30) 46 rfl w.heap.size 9 i0 _ 16 Tryz.underlying46 hi hz0 hz1 hz2 rfl _ _ _ rfl _ _ _ rfl (HO2.out.alloc _) (Own.cell_new _ _ _) rfl ?h1 ?h2 ?h3 ?_; (case h1 => unfold maxLen; omega); (case h2 => omega); (case h3 => have := HB2.out.size; simp; omega); intro v3 w3 hown3 hgrow3))
          have HB3 : Hid (Below w.heap.size w w3) := by
            have hb3 := below_al HB2.out (.cells #[.string (bs (cmdB c))] 9)
            exact hb3.grown hgrow3 hb3.size (Own.own_block HO2.out (Nat.le_refl _))
          have HO3 : Hid (w3.ownsRow w.heap.size 9 1 v3 (k + 1) (strVals ((l.take (k + 1)).map recB))) := by
            show World.ownsRow _ _ _ _ _ _ _
            rw [HTN.out]
            simpa [strVals, recB] using hown3
          clear hown3 hgrow3
          go_roundw
          case rel => exact ⟨k + 1, by omega, by go_num, HO3, HBN2, HB3⟩
          case measure => simp [intOf]; omega
        · have e : putV c = ([], 1) := by unfold putV; rw [if_neg hc]
          rw [e] at LC
          have HV2 : Hid (packV l = ([], 1)) := by show _ = _; rw [hV.out, if_pos (HBY.out hc)]
          clear e
          go_wp2_with (first
            | (refine load_at rfl (.tmp 20) rfl _ _ rfl c HR.out ?_)
            | (go_at_call 40; (with_reducible refine (LC.out _ HLi.out).mono ?_); rintro e w2 ⟨rfl, hb2⟩; have HB2 := Lib.hid (below2 HB.out hb2); clear hb2))
          go_ret2
          exact ⟨by rw [HV2.out]; rfl, HB2.out⟩
      · have dk : decide ((k : Int) < (n : Int)) = false := decide_eq_false (by omega)
        have hlt1 : ¬ (k : Int) < (n : Int) := by omega
        have htk : l.take k = l := List.take_of_length_le (by rw [HN.out]; omega)
        rw [htk] at HBd HO
        have hG := HK.out.good HBd.out
        have hoks := pack_oks l hG
        have hRL : (l.map recB).length = k := by rw [List.length_map, HN.out]; omega
        have HO2 := HO.out
        rw [← hRL] at HO2
        obtain ⟨oa, oc, rfl, hos⟩ := In.strs_of_own HO2
        have AL : Hid (Calls Tryz.prog 41 #[.slice oa (l.map recB).length oc] wr fun e w' => e = .returned (.tuple #[.string (bs (packT l)), .int .i64 0]) ∧ Below wr.heap.size wr w') := by
          have := Frm.refAll_any oa oc (l.map recB) (by rw [hRL]; omega) wr hos fun s hs => by
            obtain ⟨c, hc, rfl⟩ := List.mem_map.1 hs
            have := cmd_len c (hG c hc)
            show (bs (cmdB c)).size ≤ maxLen
            rw [Pen.bs_size]; unfold maxLen; omega
          have e1 : allS (l.map recB) = bs (packT l) := by unfold allS; rw [hoks]; rfl
          have e2 : allE (l.map recB) = 0 := by unfold allE; rw [hoks]; rfl
          rw [e1, e2] at this
          exact this
        have HV2 : Hid (packV l = (packT l, 0)) := by show _ = _; rw [hV.out, if_neg (by rw [HBd.out]; decide)]
        rw [hRL] at AL ⊢
        clear hRL HO2 hos HO
        go_wp2_with (go_at_call 41; (with_reducible refine AL.out.mono ?_); rintro e w2 ⟨rfl, hb2⟩; have HB2 := Lib.hid (below2 HB.out hb2); clear hb2)
        go_ret2
        exact ⟨by rw [HV2.out]; rfl, HB2.out⟩
end Asm
end Go.Proofs.YtlhalhilnkneeaaGreatDoor
end
section
set_option maxRecDepth 100000
namespace Go.Proofs.YtlhalhilnkneeaaGreatDoor
open Go.RowKit Go.Great Go.Sort
namespace Asm
open Pen (bs)
open In (strVals Strs)
open Frm (rows oks allS allE cats scan)
open Rec (below2 below_al below_dN Stk Stks stkVals)
open Cmd (Gives Snum CmdIn fi fn nm place chkV Cok Lies Stand Eqv zeroC kindOf load_cmd store_cmd ret_cmd setRow_cmd GivesC setV stand_new val_get size_val cmdB putV Clear takeV GivesT)
theorem allO_snoc {α : Type} : ∀ (l : List (Option α)) (m : List α) (x : α), allO l = some m → allO (l ++ [some x]) = some (m ++ [x])
  | [], m, x, h => by
    rw [allO] at h
    cases h
    rfl
  | none :: l, m, x, h => by rw [allO] at h; cases h
  | some y :: l, m, x, h => by
    rw [allO] at h
    cases hr : allO l with
    | none => rw [hr] at h; cases h
    | some q =>
      rw [hr] at h
      cases h
      rw [List.cons_append, allO, allO_snoc l q x hr]
      rfl
theorem allO_no {α : Type} : ∀ (l : List (Option α)), none ∈ l → allO l = none
  | [], h => by cases h
  | none :: l, _ => rfl
  | some y :: l, h => by
    rcases List.mem_cons.1 h with h | h
    · cases h
    · rw [allO, allO_no l h]
      rfl
theorem take_snoc {l : List (List UInt8)} {k : Nat} (h : k < l.length) : l.take (k + 1) = l.take k ++ [l.getD k []] := by
  rw [List.take_add_one, List.getElem?_eq_getElem h, List.getD_eq_getElem?_getD, List.getElem?_eq_getElem h]
  rfl
theorem takes_next {l : List (List UInt8)} {k : Nat} {m : List CmdIn} (h : k < l.length) (hm : allO ((l.take k).map takeO) = some m) {c : CmdIn} (hc : takeO (l.getD k []) = some c) : allO ((l.take (k + 1)).map takeO) = some (m ++ [c]) := by
  rw [take_snoc h, List.map_append]
  show allO (_ ++ [takeO (l.getD k [])]) = _
  rw [hc]
  exact allO_snoc _ m c hm
theorem takes_no {l : List (List UInt8)} {k : Nat} (h : k < l.length) (hc : takeO (l.getD k []) = none) : allO (l.map takeO) = none := by
  refine allO_no _ ?_
  rw [← hc]
  refine List.mem_map_of_mem ?_
  rw [List.getD_eq_getElem?_getD, List.getElem?_eq_getElem h]
  exact List.getElem_mem _
theorem take_code (x : List UInt8) : (takeO x = some (takeV x).1 ∧ (takeV x).2 = 0) ∨ (takeO x = none ∧ (takeV x).2 = 2) := by
  unfold takeO
  unfold takeV
  split
  · exact Or.inl ⟨rfl, rfl⟩
  · exact Or.inr ⟨rfl, rfl⟩
theorem scan_small : ∀ (f : Nat) (l : List UInt8), ∀ p ∈ (Frm.scanF f l).1, p.length ≤ 4096
  | 0, l, p, h => by simp [Frm.scanF] at h
  | f + 1, l, p, h => by
    rw [Frm.scanF] at h
    cases hf : Frm.first l with
    | none => rw [hf] at h; simp at h
    | some r =>
      rw [hf] at h
      dsimp only at h
      rcases List.mem_cons.1 h with rfl | h
      · have := (Frm.first_some hf).1
        unfold Frm.fits at this
        exact (of_decide_eq_true this).2
      · exact scan_small f _ p h
theorem unpack_end {s : List UInt8} {m : List CmdIn} (hu : (scan s).2 = s.length) (h : allO ((scan s).1.map takeO) = some m) : unpackV s = if 4096 < m.length then ([], 4) else (m, 0) := by
  unfold unpackV
  rw [if_neg (fun h => h hu), h]
theorem unpack_no {s : List UInt8} (h : (scan s).2 ≠ s.length ∨ allO ((scan s).1.map takeO) = none) : unpackV s = ([], 2) := by
  unfold unpackV
  by_cases hu : (scan s).2 = s.length
  · rw [if_neg (fun h => h hu)]
    rcases h with h | h
    · exact absurd hu h
    · rw [h]
  · rw [if_pos hu]
set_option maxHeartbeats 4000000 in
theorem refUnpack_any (s : ByteArray) (hs : s.size ≤ 10000000) (w : World) : Calls Tryz.prog 20 #[.string s] w (GivesU (unpackV s.data.toList) w) := by
  have hlen : s.data.toList.length = s.size := by simp
  obtain ⟨SC, hSC⟩ : ∃ SC, Hid ((scan s.data.toList).1 = SC) := ⟨_, rfl⟩
  obtain ⟨U, hU⟩ : ∃ U, Hid ((scan s.data.toList).2 = U) := ⟨_, rfl⟩
  obtain ⟨N, hN⟩ : ∃ N, Hid ((rows SC).length = N) := ⟨_, rfl⟩
  have hN2 : Hid (SC.length = N) := by rw [← hN.out]; exact (rows_len SC).symm
  have SP : Hid (∀ W, Calls Tryz.prog 42 #[.string s] W fun e w' => (∃ a cap, e = .returned (.tuple #[.slice a N cap, .int .i64 (U : Int)]) ∧ Hid (Strs w' a (rows SC))) ∧ Below W.heap.size W w') := fun W => (Frm.refScan_s s (by omega) (rows (scan s.data.toList).1) (Frm.strs_rows _) W).mono fun e w' ⟨⟨a, c, h1, h2⟩, h3⟩ => by
    rw [hSC.out, hU.out] at h1
    rw [hSC.out] at h2
    rw [hN.out] at h1
    exact ⟨⟨a, c, h1, h2⟩, h3⟩
  have hNb : N ≤ 10000000 := by
    have := Frm.scanF_len s.data.toList.length s.data.toList
    have h2 : (scan s.data.toList).1.length ≤ s.data.toList.length := this
    rw [hSC.out, hN2.out] at h2
    omega
  obtain ⟨O, hO⟩ : ∃ O, Hid (unpackV s.data.toList = O) := ⟨_, rfl⟩
  have HNO := Lib.hid (fun h => hO.out.symm.trans (unpack_no (s := s.data.toList) h))
  have HYE := Lib.hid (fun m hu h => hO.out.symm.trans (unpack_end (s := s.data.toList) (m := m) hu h))
  rw [hSC.out, hU.out, hlen] at HNO HYE
  rw [hO.out]
  have SB : Hid (∀ p ∈ SC, p.length ≤ 1000000) := fun p hp => by
    have := scan_small _ s.data.toList p (by show p ∈ (scan s.data.toList).1; rw [hSC.out]; exact hp)
    omega
  have TA : Hid (∀ (l : List UInt8), l.length ≤ 1000000 → ∀ W, Calls Tryz.prog 43 #[.string (bs l)] W (GivesT (takeV l) W)) := fun l hl W => Cmd.refTake_any (bs l) (by rw [Pen.bs_size]; omega) W
  by_cases h1 : U = s.size
  · have hne : ((U : Int) != (s.size : Int)) = false := by simp; omega
    have hne2 : ¬ (U : Int) ≠ (s.size : Int) := by omega
    have HY2 := Lib.hid (fun m => HYE.out m h1)
    clear HYE hs hlen
    go_enter Tryz.func20, Tryz.ntmps20
    go_wp2_with (go_at_call 42; (with_reducible refine (SP.out _).mono ?_); rintro e w1 ⟨⟨la, lc, rfl, HS1⟩, hb1⟩; have HB1 := Lib.hid hb1; clear hb1)
    go_loopw [6, 7] (fun v i wr => ∃ (k : Nat) (l m : List CmdIn), k ≤ N ∧ i = .int .i64 (k : Int) ∧ Hid (LS w1.heap.size w1 wr v l) ∧ Hid (EqvL l m) ∧ Hid (allO ((SC.take k).map takeO) = some m) ∧ Hid (m.length = k)) (fun _ i _ => N - (intOf i).toNat)
    case atStart => exact ⟨0, [], [], Nat.zero_le _, rfl, LS.nil w1, trivial, Lib.hid rfl, Lib.hid rfl⟩
    case round =>
      obtain ⟨k, l, m, hkN, rfl, HL, HE, HO, HM⟩ := hrel
      have HLL : Hid (l.length = m.length) := HE.out.length
      by_cases hlt : k < N
      · have dk : decide ((k : Int) < (N : Int)) = true := decide_eq_true (by omega)
        have hlt1 : (k : Int) < (N : Int) := by omega
        have hkL : k < SC.length := by rw [hN2.out]; exact hlt
        have hPm : SC.getD k [] ∈ SC := by rw [List.getD_eq_getElem?_getD, List.getElem?_eq_getElem hkL]; exact List.getElem_mem _
        have hPl := SB.out _ hPm
        obtain ⟨b0, off0, rfl, hb0, hc⟩ := HS1.out k (by rw [hN.out]; exact hlt)
        rw [rows_getD] at hc
        have hcw : wr.cell? ⟨b0, off0 + k, none⟩ = some (.string (bs (SC.getD k []))) := (HL.out.bel.cell (p := ⟨b0, off0 + k, none⟩) hb0).trans hc
        have HYN := Lib.hid (fun c h => takes_next (c := c) hkL HO.out h)
        have HNN := Lib.hid (fun h => HNO.out (Or.inr (takes_no hkL h)))
        clear hPm hc
        generalize SC.getD k [] = P at *
        have TP := Lib.hid (TA.out P hPl)
        rcases take_code P with ⟨h2, h3⟩ | ⟨h2, h3⟩
        · obtain ⟨T, hT⟩ : ∃ T, takeV P = T := ⟨_, rfl⟩
          rw [hT] at TP h2 h3
          obtain ⟨c, n0⟩ := T
          dsimp only at h2 h3
          subst h3
          have HYC := Lib.hid (HYN.out c h2)
          have HM2 : Hid ((m ++ [c]).length = k + 1) := by show _ = _; rw [List.length_append, HM.out]; rfl
          have hl7 : l.length ≤ 10000000 := by have := HM.out; have := HLL.out; omega
          clear h2 hT
          obtain ⟨va, vc, rfl, -⟩ := HL.out.oc.cmds
          have TPY : Hid (∀ W, Calls Tryz.prog 43 #[.string (bs P)] W fun e w' => ∃ c', e = .returned (.tuple #[.agg (CmdIn.val c'), .int .i64 0]) ∧ Hid (Eqv c' c) ∧ Hid (Lies w' c') ∧ Hid (Below W.heap.size W w') ∧ Hid (∀ x, At c' x → W.heap.size ≤ x.block)) := TP.out
          clear TP
          go_upto_region 9 with (first
            | (go_at_call 43; (with_reducible refine (TPY.out _).mono ?_); rintro e w3 ⟨c3, rfl, HE3, HL3, HB3, HF3⟩; have HZ3 : Hid ((w3.alloc (.cells zeroC.val 41)).heap[w3.heap.size]? = some (.cells zeroC.val 41 (0, 0))) := Own.heap_new _ _)
            | (refine store_cmd rfl (.tmp 8) (.tmp 31) rfl rfl w3.heap.size c3 zeroC rfl rfl HZ3.out ?_))
          refine Cmd.wp_named fun V hV => ?_
          have hV1 : V = (w3.alloc (.cells zeroC.val 41)).setRow w3.heap.size c3.val := hV
          obtain ⟨hs3, hb3⟩ := box_new w3 c3
          rw [← hV1] at hs3 hb3
          obtain ⟨g9, hg9⟩ : ∃ g, Hid (w3.heap.size = g) := ⟨_, rfl⟩
          rw [hg9.out] at hs3 ⊢
          obtain ⟨gV, hgV⟩ : ∃ g, V.heap.size = g := ⟨_, rfl⟩
          have HBV : Hid (Below wr.heap.size wr V) := below2 HB3.out hb3
          obtain ⟨q1, q2, q3, q4, q5⟩ := HL.out.step HBV.out (HL3.out.below hb3) HF3.out
          rw [hgV] at q2
          have HS3 := Lib.hid hs3
          have Q1 := Lib.hid q1
          have Q2 := Lib.hid q2
          have Q3 := Lib.hid q3
          have Q4 := Lib.hid q4
          have Q5 := Lib.hid q5
          clear hV hV1 hb3 hs3 q1 q2 q3 q4 q5
          go_wp2_with (first
            | (refine load_cmd rfl (.tmp 8) rfl g9 rfl c3 HS3.out ?_)
            | (refine build_cmd rfl (.tmp 36) rfl c3 rfl gV hgV ?_)
            | (at_builtin; refine list_cmd1 rfl (.tmp 35) (.tmp 37) rfl w1.heap.size (.slice va l.length vc) l rfl gV 1 c3 rfl Q1.out Q2.out Q3.out Q4.out hl7 Q5.out ?_; intro g4 cap4 w4 hoc4 hgr4))
          have HLN : Hid (LS w1.heap.size w1 w4 (.slice (some ⟨g4, 0, none⟩) (l.length + 1) cap4) (l ++ [c3])) := HL.out.next HBV.out hoc4 hgr4
          have HEN : Hid (EqvL (l ++ [c3]) (m ++ [c])) := EqvL.append HE.out ⟨HE3.out, trivial⟩
          clear hoc4 hgr4
          go_roundw
          case rel => exact ⟨k + 1, l ++ [c3], m ++ [c], by omega, by go_num, HLN, HEN, HYC, HM2⟩
          case measure => simp [intOf]; omega
        · have HR := Lib.hid (HNN.out h2)
          obtain ⟨T, hT⟩ : ∃ T, takeV P = T := ⟨_, rfl⟩
          rw [hT] at TP h3
          obtain ⟨c, n0⟩ := T
          dsimp only at h3
          subst h3
          have TPN : Hid (∀ W, Calls Tryz.prog 43 #[.string (bs P)] W fun e w' => ∃ c', e = .returned (.tuple #[.agg (CmdIn.val c'), .int .i64 2]) ∧ Hid (Below W.heap.size W w')) := fun W => (TP.out W).mono fun e w' ⟨c', h1, _, _, h2, _⟩ => ⟨c', h1, h2⟩
          clear TP h2 hT
          go_wp2_with (first
            | (go_at_call 43; (with_reducible refine (TPN.out _).mono ?_); rintro e w3 ⟨c3, rfl, HB3⟩; have HZ3 : Hid ((w3.alloc (.cells zeroC.val 41)).heap[w3.heap.size]? = some (.cells zeroC.val 41 (0, 0))) := Own.heap_new _ _)
            | (refine store_cmd rfl (.tmp 8) (.tmp 31) rfl rfl w3.heap.size c3 zeroC rfl rfl HZ3.out ?_))
          go_ret2
          refine ⟨_, [], by rw [HR.out]; rfl, OC.nil _ _, by rw [HR.out]; exact trivial, ?_⟩
          exact below2 HB1.out ((HL.out.below (below2 HB3.out (box_new w3 c3).2)).bel)
      · have dk : decide ((k : Int) < (N : Int)) = false := decide_eq_false (by omega)
        have hlt1 : ¬ (k : Int) < (N : Int) := by omega
        have hHV := HY2.out m (by rw [← HO.out, List.take_of_length_le (by have := hN2.out; omega)])
        obtain ⟨va, vc, rfl, -⟩ := HL.out.oc.cmds
        by_cases h4 : 4096 < l.length
        · have g4 : (4096 : Int) < (l.length : Int) := by omega
          rw [if_pos (by have := HLL.out; omega)] at hHV
          have HR := Lib.hid hHV
          clear hHV
          go_wp2
          go_ret2
          exact ⟨_, [], by rw [HR.out]; rfl, OC.nil _ _, by rw [HR.out]; exact trivial, below2 HB1.out HL.out.bel⟩
        · have g4 : ¬ (4096 : Int) < (l.length : Int) := by omega
          rw [if_neg (by have := HLL.out; omega)] at hHV
          have HR := Lib.hid hHV
          clear hHV
          go_wp2
          go_ret2
          exact ⟨_, l, by rw [HR.out]; rfl, HL.out.oc.base HB1.out.size, by rw [HR.out]; exact HE.out, below2 HB1.out HL.out.bel⟩
  · have hne : ((U : Int) != (s.size : Int)) = true := by simp; omega
    have hne2 : (U : Int) ≠ (s.size : Int) := by omega
    have HR := Lib.hid (HNO.out (Or.inl h1))
    go_enter Tryz.func20, Tryz.ntmps20
    go_wp2_with (go_at_call 42; (with_reducible refine (SP.out _).mono ?_); rintro e w1 ⟨⟨la, lc, rfl, HS1⟩, hb1⟩; have HB1 := Lib.hid hb1; clear hb1)
    go_ret2
    exact ⟨_, [], by rw [HR.out]; rfl, OC.nil _ _, by rw [HR.out]; exact trivial, HB1.out⟩
end Asm
end Go.Proofs.YtlhalhilnkneeaaGreatDoor
end
