/- Texts put together: AskF, AskG. -/
import Derived.Test.YtlhalhilnkneeaaGreatDoorM23
import Derived.Test.YtlhalhilnkneeaaGreatDoorM05
set_option linter.all false
section
set_option maxRecDepth 100000
namespace Go.Proofs.YtlhalhilnkneeaaGreatDoor
open Go.RowKit Go.Great Go.Sort
namespace Asm
open Pen (bs)
open In (strVals Strs)
open Frm (rows oks allS allE cats scan)
open Rec (below2 below_al below_dN Stk Stks stkVals)
open Cmd (Gives Snum CmdIn fi fn nm place chkV Cok Lies Stand Eqv zeroC kindOf load_cmd store_cmd ret_cmd setRow_cmd GivesC setV stand_new val_get size_val cmdB putV Clear takeV GivesT)
theorem text_join : ∀ l : List CmdIn, l ≠ [] → joinL 10 (l.map lineT) ++ [10] = textT l
  | [], h => absurd rfl h
  | [x], _ => by
    show lineT x ++ [10] = lineT x ++ [10] ++ []
    rw [List.append_nil]
  | x :: y :: r, _ => by
    have ih := text_join (y :: r) (List.cons_ne_nil _ _)
    show (lineT x ++ 10 :: joinL 10 ((y :: r).map lineT)) ++ [10] = (lineT x ++ [10]) ++ textT (y :: r)
    rw [← ih]
    simp
set_option maxHeartbeats 4000000 in
theorem text_any (a : Option Addr) (cap : Nat) (l : List CmdIn) (n : Nat) (hn : l.length = n) (hk : Okl l) (w : World) (ha : Cmds w a l) (hE : Env w) : Calls Tryz.prog 14 #[.slice a n cap] w fun e w' => e = .returned (.tuple #[.string (bs (textV l).1), .int .i64 (textV l).2]) ∧ Below w.heap.size w w' := by
  have TO : Hid (Calls Tryz.prog 32 #[.slice a n cap, .func (.func 33) #[] #[]] w (ToldRes lineB l w)) := toldLine_any a cap l n hn hk w ha hE
  by_cases h1 : 4096 < l.length ∨ bad l = true
  · have hV : textV l = ([], 1) := by
      unfold textV
      split
      · rfl
      · rename_i h
        rw [if_pos (h1.resolve_left h)]
    have TN : Hid (Calls Tryz.prog 32 #[.slice a n cap, .func (.func 33) #[] #[]] w fun e w' => e = .returned (.tuple #[.slice none 0 0, .int .i64 1]) ∧ Hid (Below w.heap.size w w')) := TO.out.mono fun e w' ⟨h2, h3⟩ => by
      rcases h2 with ⟨-, h2⟩ | ⟨h4, h5, -⟩
      · exact ⟨h2, h3⟩
      · rcases h1 with h | h
        · omega
        · rw [h5] at h; cases h
    rw [hV]
    clear TO h1 hV hE
    go_enter Tryz.func14, Tryz.ntmps14
    go_wp2_with (go_at_call 32; (with_reducible refine TN.out.mono ?_); rintro e w1 ⟨rfl, HB1⟩)
    go_ret2
    exact ⟨rfl, HB1.out⟩
  · have h4 : l.length ≤ 4096 := by omega
    have hb : bad l = false := by
      cases hb : bad l with
      | true => exact absurd (Or.inr hb) h1
      | false => rfl
    have hV : Hid (textV l = (textT l, 0)) := by
      show _ = _
      unfold textV
      rw [if_neg (by omega), if_neg (by rw [hb]; decide)]
    have TY : Hid (Calls Tryz.prog 32 #[.slice a n cap, .func (.func 33) #[] #[]] w fun e w' => (∃ b c, e = .returned (.tuple #[.slice b n c, .int .i64 0]) ∧ Hid (w'.ownsRow w.heap.size 9 1 (.slice b n c) (l.map lineT).length (strVals (rows (l.map lineT))))) ∧ Hid (Below w.heap.size w w')) := TO.out.mono fun e w' ⟨h2, h3⟩ => by
      rcases h2 with ⟨h2, -⟩ | ⟨-, -, v, h5, h6⟩
      · exact absurd h2 h1
      · have er : rows (l.map lineT) = l.map lineB := by
          unfold Frm.rows
          rw [List.map_map]
          rfl
        have h7 := h6.out
        have hl2 : (l.map lineB).length = l.length := List.length_map _
        rw [← hl2] at h7
        obtain ⟨b, c, e2, -⟩ := In.strs_of_own h7
        rw [hl2, hn] at e2
        subst e2
        refine ⟨⟨b, c, h5, ?_⟩, h3⟩
        rw [er, List.length_map]
        exact h6
    have htl := text_len l (hk.good hb)
    have HTL : Hid ((textT l).length ≤ 5000000) := by
      show _ ≤ _
      have : 1016 * l.length ≤ 1016 * 4096 := Nat.mul_le_mul_left _ h4
      omega
    have HN := Lib.hid hn
    clear TO h1 hb htl hE hk
    by_cases h0 : l = []
    · subst h0
      have hn0 : n = 0 := hn.symm
      subst hn0
      rw [hV.out]
      go_enter Tryz.func14, Tryz.ntmps14
      go_wp2_with (go_at_call 32; (with_reducible refine TY.out.mono ?_); rintro e w1 ⟨⟨b1, c1, rfl, HO1⟩, HB1⟩)
      go_ret2
      exact ⟨rfl, HB1.out⟩
    · have hj := text_join l h0
      have hn1 : 0 < n := by rw [← hn]; exact List.length_pos_iff.2 h0
      have JN : Hid (∀ v (W : World), W.ownsRow w.heap.size 9 1 v (l.map lineT).length (strVals (rows (l.map lineT))) → Calls Tryz.prog 34 #[v, .string ⟨#[10]⟩] W fun e w' => e = .returned (.string (bs (joinL 10 (l.map lineT)))) ∧ Below W.heap.size W w') := fun v W h => join_any (l.map lineT) 10 v W w.heap.size h (by rw [List.length_map]; omega) (by
        have := HTL.out
        rw [← hj, List.length_append] at this
        omega)
      have hjl : (joinL 10 (l.map lineT)).length ≤ 5000000 := by
        have := HTL.out
        rw [← hj, List.length_append] at this
        omega
      have EE : Hid (bs (joinL 10 (l.map lineT)) ++ (⟨#[10]⟩ : ByteArray) = bs (textT l)) := by
        show _ = _
        rw [show (⟨#[10]⟩ : ByteArray) = bs [10] from rfl, bs_add, hj]
      have z1 : ¬ 9223372036854775807 < (bs (joinL 10 (l.map lineT))).size + 1 := by rw [Pen.bs_size]; omega
      have hnz : (n : Int) ≠ 0 := by omega
      have hnb : ((n : Int) == 0) = false := by simp; omega
      clear hj h0 hjl hn
      go_enter Tryz.func14, Tryz.ntmps14
      go_wp2_with (first
        | (go_at_call 32; (with_reducible refine TY.out.mono ?_); rintro e w1 ⟨⟨b1, c1, rfl, HO1⟩, HB1⟩)
        | (go_at_call 34; (with_reducible refine (JN.out _ _ HO1.out).mono ?_); rintro e w2 ⟨rfl, hb2⟩; have HB2 := Lib.hid (below2 HB1.out hb2); clear hb2))
      go_ret2
      exact ⟨by rw [hV.out, ← EE.out]; rfl, HB2.out⟩
set_option maxHeartbeats 4000000 in
theorem pack_any (a : Option Addr) (cap : Nat) (l : List CmdIn) (n : Nat) (hn : l.length = n) (hk : Okl l) (w : World) (ha : Cmds w a l) (hE : Env w) : Calls Tryz.prog 15 #[.slice a n cap] w fun e w' => e = .returned (.tuple #[.string (bs (packV l).1), .int .i64 (packV l).2]) ∧ Below w.heap.size w w' := by
  have TO : Hid (Calls Tryz.prog 32 #[.slice a n cap, .func (.func 35) #[] #[]] w (ToldRes recB l w)) := toldPut_any a cap l n hn hk w ha hE
  by_cases h1 : 4096 < l.length ∨ bad l = true
  · have hV : packV l = ([], 1) := by
      unfold packV
      split
      · rfl
      · rename_i h
        rw [if_pos (h1.resolve_left h)]
    have TN : Hid (Calls Tryz.prog 32 #[.slice a n cap, .func (.func 35) #[] #[]] w fun e w' => e = .returned (.tuple #[.slice none 0 0, .int .i64 1]) ∧ Hid (Below w.heap.size w w')) := TO.out.mono fun e w' ⟨h2, h3⟩ => by
      rcases h2 with ⟨-, h2⟩ | ⟨h4, h5, -⟩
      · exact ⟨h2, h3⟩
      · rcases h1 with h | h
        · omega
        · rw [h5] at h; cases h
    rw [hV]
    clear TO h1 hV hE
    go_enter Tryz.func15, Tryz.ntmps15
    go_wp2_with (go_at_call 32; (with_reducible refine TN.out.mono ?_); rintro e w1 ⟨rfl, HB1⟩)
    go_ret2
    exact ⟨rfl, HB1.out⟩
  · have h4 : l.length ≤ 4096 := by omega
    have hb : bad l = false := by
      cases hb : bad l with
      | true => exact absurd (Or.inr hb) h1
      | false => rfl
    have hV : Hid (packV l = (packT l, 0)) := by
      show _ = _
      unfold packV
      rw [if_neg (by omega), if_neg (by rw [hb]; decide)]
    have hG := hk.good hb
    have hoks := pack_oks l hG
    have TY : Hid (Calls Tryz.prog 32 #[.slice a n cap, .func (.func 35) #[] #[]] w fun e w' => (∃ b c, e = .returned (.tuple #[.slice b n c, .int .i64 0]) ∧ Hid (Strs w' b (l.map recB))) ∧ Hid (Below w.heap.size w w')) := TO.out.mono fun e w' ⟨h2, h3⟩ => by
      rcases h2 with ⟨h2, -⟩ | ⟨-, -, v, h5, h6⟩
      · exact absurd h2 h1
      · have h7 := h6.out
        have hl2 : (l.map recB).length = l.length := List.length_map _
        rw [← hl2] at h7
        obtain ⟨b, c, e2, hst⟩ := In.strs_of_own h7
        rw [hl2, hn] at e2
        subst e2
        exact ⟨⟨b, c, h5, hst⟩, h3⟩
    have AL : Hid (∀ b c W, Strs W b (l.map recB) → Calls Tryz.prog 36 #[.slice b n c] W fun e w' => e = .returned (.tuple #[.string (bs (packT l)), .int .i64 0]) ∧ Below W.heap.size W w') := fun b c W h => by
      have := Frm.all_any b c (l.map recB) (by rw [List.length_map]; omega) W h fun s hs => by
        obtain ⟨c, hc, rfl⟩ := List.mem_map.1 hs
        have := cmd_len c (hG c hc)
        show (bs (cmdB c)).size ≤ maxLen
        rw [Pen.bs_size]; unfold maxLen; omega
      have e1 : allS (l.map recB) = bs (packT l) := by unfold allS; rw [hoks]; rfl
      have e2 : allE (l.map recB) = 0 := by unfold allE; rw [hoks]; rfl
      rw [e1, e2, List.length_map, hn] at this
      exact this
    rw [hV.out]
    clear TO h1 hb hE hk hG hoks
    go_enter Tryz.func15, Tryz.ntmps15
    go_wp2_with (first
      | (go_at_call 32; (with_reducible refine TY.out.mono ?_); rintro e w1 ⟨⟨b1, c1, rfl, HS1⟩, HB1⟩)
      | (go_at_call 36; (with_reducible refine (AL.out _ _ _ HS1.out).mono ?_); rintro e w2 ⟨rfl, hb2⟩; have HB2 := Lib.hid (below2 HB1.out hb2); clear hb2))
    go_ret2
    exact ⟨rfl, HB2.out⟩
set_option maxHeartbeats 4000000 in
theorem unpack_any (s : ByteArray) (hs : s.size ≤ 10000000) (w : World) (hE : Env w) : Calls Tryz.prog 17 #[.string s] w (GivesU (unpackV s.data.toList) w) := by
  have hlen : s.data.toList.length = s.size := by simp
  obtain ⟨SC, hSC⟩ : ∃ SC, Hid ((scan s.data.toList).1 = SC) := ⟨_, rfl⟩
  obtain ⟨U, hU⟩ : ∃ U, Hid ((scan s.data.toList).2 = U) := ⟨_, rfl⟩
  obtain ⟨N, hN⟩ : ∃ N, Hid ((rows SC).length = N) := ⟨_, rfl⟩
  have hN2 : Hid (SC.length = N) := by rw [← hN.out]; exact (rows_len SC).symm
  have SP : Hid (∀ W, Calls Tryz.prog 37 #[.string s] W fun e w' => (∃ a cap, e = .returned (.tuple #[.slice a N cap, .int .i64 (U : Int)]) ∧ Hid (Strs w' a (rows SC))) ∧ Below W.heap.size W w') := fun W => (Frm.scan_s s (by omega) (rows (scan s.data.toList).1) (Frm.strs_rows _) W).mono fun e w' ⟨⟨a, c, h1, h2⟩, h3⟩ => by
    rw [hSC.out, hU.out] at h1
    rw [hSC.out] at h2
    rw [hN.out] at h1
    exact ⟨⟨a, c, h1, h2⟩, h3⟩
  have hNb : N ≤ 10000000 := by
    have := Frm.scanF_len s.data.toList.length s.data.toList
    have h2 : (scan s.data.toList).1.length ≤ s.data.toList.length := this
    rw [hSC.out, hN2.out] at h2
    omega
  obtain ⟨O, hO⟩ : ∃ O, Hid (unpackV s.data.toList = O) := ⟨_, rfl⟩
  have HNO := Lib.hid (fun h => hO.out.symm.trans (unpack_no (s := s.data.toList) h))
  have HYE := Lib.hid (fun m hu h => hO.out.symm.trans (unpack_end (s := s.data.toList) (m := m) hu h))
  rw [hSC.out, hU.out, hlen] at HNO HYE
  rw [hO.out]
  have SB : Hid (∀ p ∈ SC, p.length ≤ 1000000) := fun p hp => by
    have := scan_small _ s.data.toList p (by show p ∈ (scan s.data.toList).1; rw [hSC.out]; exact hp)
    omega
  have TA : Hid (∀ (l : List UInt8), l.length ≤ 1000000 → ∀ W, Below w.heap.size w W → Calls Tryz.prog 38 #[.string (bs l)] W (GivesT (takeV l) W)) := fun l hl W hb => Cmd.take_any (bs l) (by rw [Pen.bs_size]; omega) W (hE.below hb).tab.sp
  by_cases h1 : U = s.size
  · have hne : ((U : Int) != (s.size : Int)) = false := by simp; omega
    have hne2 : ¬ (U : Int) ≠ (s.size : Int) := by omega
    have HY2 := Lib.hid (fun m => HYE.out m h1)
    clear HYE hs hlen hE
    go_enter Tryz.func17, Tryz.ntmps17
    go_wp2_with (go_at_call 37; (with_reducible refine (SP.out _).mono ?_); rintro e w1 ⟨⟨la, lc, rfl, HS1⟩, hb1⟩; have HB1 := Lib.hid hb1; clear hb1)
    go_loopw [6, 22] (fun v i wr => ∃ (k : Nat) (l m : List CmdIn), k ≤ N ∧ i = .int .i64 (k : Int) ∧ Hid (LS w1.heap.size w1 wr v l) ∧ Hid (EqvL l m) ∧ Hid (allO ((SC.take k).map takeO) = some m) ∧ Hid (m.length = k)) (fun _ i _ => N - (intOf i).toNat)
    case atStart => exact ⟨0, [], [], Nat.zero_le _, rfl, LS.nil w1, trivial, Lib.hid rfl, Lib.hid rfl⟩
    case round =>
      obtain ⟨k, l, m, hkN, rfl, HL, HE, HO, HM⟩ := hrel
      have HLL : Hid (l.length = m.length) := HE.out.length
      have HWR : Hid (Below w.heap.size w wr) := below2 HB1.out HL.out.bel
      by_cases hlt : k < N
      · have dk : decide ((k : Int) < (N : Int)) = true := decide_eq_true (by omega)
        have hlt1 : (k : Int) < (N : Int) := by omega
        have hkL : k < SC.length := by rw [hN2.out]; exact hlt
        have hPm : SC.getD k [] ∈ SC := by rw [List.getD_eq_getElem?_getD, List.getElem?_eq_getElem hkL]; exact List.getElem_mem _
        have hPl := SB.out _ hPm
        obtain ⟨b0, off0, rfl, hb0, hc⟩ := HS1.out k (by rw [hN.out]; exact hlt)
        rw [rows_getD] at hc
        have hcw : wr.cell? ⟨b0, off0 + k, none⟩ = some (.string (bs (SC.getD k []))) := (HL.out.bel.cell (p := ⟨b0, off0 + k, none⟩) hb0).trans hc
        have HYN := Lib.hid (fun c h => takes_next (c := c) hkL HO.out h)
        have HNN := Lib.hid (fun h => HNO.out (Or.inr (takes_no hkL h)))
        clear hPm hc
        generalize SC.getD k [] = P at *
        have TP := Lib.hid (TA.out P hPl)
        rcases take_code P with ⟨h2, h3⟩ | ⟨h2, h3⟩
        · obtain ⟨T, hT⟩ : ∃ T, takeV P = T := ⟨_, rfl⟩
          rw [hT] at TP h2 h3
          obtain ⟨c, n0⟩ := T
          dsimp only at h2 h3
          subst h3
          have HYC := Lib.hid (HYN.out c h2)
          have HM2 : Hid ((m ++ [c]).length = k + 1) := by show _ = _; rw [List.length_append, HM.out]; rfl
          have hl7 : l.length ≤ 10000000 := by have := HM.out; have := HLL.out; omega
          clear h2 hT
          obtain ⟨va, vc, rfl, -⟩ := HL.out.oc.cmds
          have TPY : Hid (∀ W, Below w.heap.size w W → Calls Tryz.prog 38 #[.string (bs P)] W fun e w' => ∃ c', e = .returned (.tuple #[.agg (CmdIn.val c'), .int .i64 0]) ∧ Hid (Eqv c' c) ∧ Hid (Lies w' c') ∧ Hid (Below W.heap.size W w') ∧ Hid (∀ x, At c' x → W.heap.size ≤ x.block)) := TP.out
          clear TP
          go_upto_region 9 with (first
            | (go_at_call 38; (with_reducible refine (TPY.out _ HWR.out).mono ?_); rintro e w3 ⟨c3, rfl, HE3, HL3, HB3, HF3⟩; have HZ3 : Hid ((w3.alloc (.cells zeroC.val 41)).heap[w3.heap.size]? = some (.cells zeroC.val 41 (0, 0))) := Own.heap_new _ _)
            | (refine store_cmd rfl (.tmp 9) (.tmp 29) rfl rfl w3.heap.size c3 zeroC rfl rfl HZ3.out ?_))
          refine Cmd.wp_named fun V hV => ?_
          have hV1 : V = (w3.alloc (.cells zeroC.val 41)).setRow w3.heap.size c3.val := hV
          obtain ⟨hs3, hb3⟩ := box_new w3 c3
          rw [← hV1] at hs3 hb3
          obtain ⟨g9, hg9⟩ : ∃ g, Hid (w3.heap.size = g) := ⟨_, rfl⟩
          rw [hg9.out] at hs3 ⊢
          obtain ⟨gV, hgV⟩ : ∃ g, V.heap.size = g := ⟨_, rfl⟩
          have HBV : Hid (Below wr.heap.size wr V) := below2 HB3.out hb3
          obtain ⟨q1, q2, q3, q4, q5⟩ := HL.out.step HBV.out (HL3.out.below hb3) HF3.out
          rw [hgV] at q2
          have HS3 := Lib.hid hs3
          have Q1 := Lib.hid q1
          have Q2 := Lib.hid q2
          have Q3 := Lib.hid q3
          have Q4 := Lib.hid q4
          have Q5 := Lib.hid q5
          clear hV hV1 hb3 hs3 q1 q2 q3 q4 q5
          go_wp2_with (first
            | (refine load_cmd rfl (.tmp 9) rfl g9 rfl c3 HS3.out ?_)
            | (refine build_cmd rfl (.tmp 34) rfl c3 rfl gV hgV ?_)
            | (at_builtin; refine list_cmd1 rfl (.tmp 33) (.tmp 35) rfl w1.heap.size (.slice va l.length vc) l rfl gV 1 c3 rfl Q1.out Q2.out Q3.out Q4.out hl7 Q5.out ?_; intro g4 cap4 w4 hoc4 hgr4))
          have HLN : Hid (LS w1.heap.size w1 w4 (.slice (some ⟨g4, 0, none⟩) (l.length + 1) cap4) (l ++ [c3])) := HL.out.next HBV.out hoc4 hgr4
          have HEN : Hid (EqvL (l ++ [c3]) (m ++ [c])) := EqvL.append HE.out ⟨HE3.out, trivial⟩
          clear hoc4 hgr4
          go_roundw
          case rel => exact ⟨k + 1, l ++ [c3], m ++ [c], by omega, by go_num, HLN, HEN, HYC, HM2⟩
          case measure => simp [intOf]; omega
        · have HR := Lib.hid (HNN.out h2)
          obtain ⟨T, hT⟩ : ∃ T, takeV P = T := ⟨_, rfl⟩
          rw [hT] at TP h3
          obtain ⟨c, n0⟩ := T
          dsimp only at h3
          subst h3
          have TPN : Hid (∀ W, Below w.heap.size w W → Calls Tryz.prog 38 #[.string (bs P)] W fun e w' => ∃ c', e = .returned (.tuple #[.agg (CmdIn.val c'), .int .i64 2]) ∧ Hid (Below W.heap.size W w')) := fun W hb => (TP.out W hb).mono fun e w' ⟨c', h1, _, _, h2, _⟩ => ⟨c', h1, h2⟩
          clear TP h2 hT
          go_wp2_with (first
            | (go_at_call 38; (with_reducible refine (TPN.out _ HWR.out).mono ?_); rintro e w3 ⟨c3, rfl, HB3⟩; have HZ3 : Hid ((w3.alloc (.cells zeroC.val 41)).heap[w3.heap.size]? = some (.cells zeroC.val 41 (0, 0))) := Own.heap_new _ _)
            | (refine store_cmd rfl (.tmp 9) (.tmp 29) rfl rfl w3.heap.size c3 zeroC rfl rfl HZ3.out ?_))
          go_ret2
          refine ⟨_, [], by rw [HR.out]; rfl, OC.nil _ _, by rw [HR.out]; exact trivial, ?_⟩
          exact below2 HB1.out ((HL.out.below (below2 HB3.out (box_new w3 c3).2)).bel)
      · have dk : decide ((k : Int) < (N : Int)) = false := decide_eq_false (by omega)
        have hlt1 : ¬ (k : Int) < (N : Int) := by omega
        have hHV := HY2.out m (by rw [← HO.out, List.take_of_length_le (by have := hN2.out; omega)])
        obtain ⟨va, vc, rfl, -⟩ := HL.out.oc.cmds
        by_cases h4 : 4096 < l.length
        · have g4 : (4096 : Int) < (l.length : Int) := by omega
          rw [if_pos (by have := HLL.out; omega)] at hHV
          have HR := Lib.hid hHV
          clear hHV
          go_wp2
          go_ret2
          exact ⟨_, [], by rw [HR.out]; rfl, OC.nil _ _, by rw [HR.out]; exact trivial, below2 HB1.out HL.out.bel⟩
        · have g4 : ¬ (4096 : Int) < (l.length : Int) := by omega
          rw [if_neg (by have := HLL.out; omega)] at hHV
          have HR := Lib.hid hHV
          clear hHV
          go_wp2
          go_ret2
          exact ⟨_, l, by rw [HR.out]; rfl, HL.out.oc.base HB1.out.size, by rw [HR.out]; exact HE.out, below2 HB1.out HL.out.bel⟩
  · have hne : ((U : Int) != (s.size : Int)) = true := by simp; omega
    have hne2 : (U : Int) ≠ (s.size : Int) := by omega
    have HR := Lib.hid (HNO.out (Or.inl h1))
    go_enter Tryz.func17, Tryz.ntmps17
    go_wp2_with (go_at_call 37; (with_reducible refine (SP.out _).mono ?_); rintro e w1 ⟨⟨la, lc, rfl, HS1⟩, hb1⟩; have HB1 := Lib.hid hb1; clear hb1)
    go_ret2
    exact ⟨_, [], by rw [HR.out]; rfl, OC.nil _ _, by rw [HR.out]; exact trivial, HB1.out⟩
end Asm
end Go.Proofs.YtlhalhilnkneeaaGreatDoor
end
section
set_option maxRecDepth 100000
namespace Go.Proofs.YtlhalhilnkneeaaGreatDoor
open Go.RowKit Go.Great Go.Sort
namespace Asm
open Pen (bs)
open In (strVals Strs)
open Frm (rows oks allS allE cats scan)
open Rec (below2 below_al below_dN Stk Stks stkVals)
open Cmd (Gives Snum CmdIn fi fn nm place chkV Cok Lies Stand Eqv zeroC kindOf load_cmd store_cmd ret_cmd setRow_cmd GivesC setV stand_new val_get size_val cmdB putV Clear takeV GivesT)
/-- A load of a command out of a row may be taken first. -/
theorem yield_cmd {ops : Array Oper} {S : World → Prop} {op : Oper} {a : Act} (hw : Region.wanted op (yielded ops a.tmps) = true) (x : Operand) (ho : op.op = .load 41 x) (b o : Nat) (hx : a.eval x = .pointer (some ⟨b, o, none⟩)) (c : CmdIn) (hS : ∀ w, S w → w.rangeAt b o c.val.toList) : YieldsIf Tryz.prog ops S op (.agg c.val) a := by
  have := yieldsIf_load_mid hw 41 x ho b o hx c.val.toList _ hS Tryz.underlying41 rfl ((size_val c).trans (by simp))
  simpa using this
theorem OC.okl {l m : List CmdIn} (h : EqvL l m) (hm : ∀ c ∈ m, Cok c ∧ Clear c) : Okl l := Okl.eqv h hm
set_option maxHeartbeats 2000000 in
theorem assemble_any (t : List UInt8) (hs : t.length ≤ 1000000) (w : World) (hE : Env w) : Calls Tryz.prog 10 #[.string (bs t)] w fun e w' => e = .returned (.tuple #[.string (bs (asmV t).1), .int .i64 (asmV t).2.1, .int .i64 (asmV t).2.2]) ∧ Below w.heap.size w w' := by
  have SC : Hid (Calls Tryz.prog 8 #[.string (bs t)] w (GivesS (scriptV t) w)) := script_any t hs w hE
  obtain ⟨hok, hlen⟩ := scriptV_ok t
  have HOK : Hid (Okl (scriptV t).1) := hok
  have PK : Hid (∀ (a : Option Addr) (cap : Nat) (l : List CmdIn), Okl l → ∀ W, Below w.heap.size w W → Cmds W a l → Calls Tryz.prog 15 #[.slice a l.length cap] W fun e w' => e = .returned (.tuple #[.string (bs (packV l).1), .int .i64 (packV l).2]) ∧ Below W.heap.size W w') := fun a cap l hk W hb h => pack_any a cap l l.length rfl hk W h (hE.below hb)
  obtain ⟨O, hO⟩ : ∃ O, Hid (asmV t = O) := ⟨_, rfl⟩
  have HA : Hid (O = if (scriptV t).2.2 = 0 then ((packV (scriptV t).1).1, 0, (packV (scriptV t).1).2) else ([], (scriptV t).2.1, (scriptV t).2.2)) := hO.out.symm
  rw [hO.out]
  generalize scriptV t = S at *
  obtain ⟨m, n1, n2⟩ := S
  dsimp only at HA HOK
  clear hok hlen hs hO hE
  by_cases h0 : n2 = 0
  · subst h0
    have HA1 : Hid (O = ((packV m).1, 0, (packV m).2)) := HA.out.trans (if_pos rfl)
    have SC1 : Hid (Calls Tryz.prog 8 #[.string (bs t)] w fun e w' => ∃ a cap l, e = .returned (.tuple #[.slice a (List.length l) cap, .int .i64 n1, .int .i64 0]) ∧ Hid (Cmds w' a l) ∧ Hid (EqvL l m) ∧ Hid (Below w.heap.size w w')) := SC.out.mono fun e w' ⟨v, l, h1, h2, h3, h4⟩ => by
      obtain ⟨a, cap, rfl, hc⟩ := h2.out.cmds
      exact ⟨a, cap, l, h1, hc, h3, h4⟩
    go_enter Tryz.func10, Tryz.ntmps10
    go_wp2_with (first
      | (go_at_call 8; (with_reducible refine SC1.out.mono ?_); rintro e w1 ⟨la, lc, l1, rfl, HC1, HE1, HB1⟩)
      | (go_at_call 15; (with_reducible refine (PK.out la lc l1 (Okl.eqv HE1.out HOK.out) _ HB1.out HC1.out).mono ?_); rintro e w2 ⟨rfl, hb2⟩; have HB2 := Lib.hid (below2 HB1.out hb2); clear hb2))
    go_ret3
    exact ⟨by rw [HA1.out, (textV_eqv HE1.out).2]; rfl, HB2.out⟩
  · have HA1 : Hid (O = ([], n1, n2)) := HA.out.trans (if_neg h0)
    have hne : ((n2 : Int) != 0) = true := by simpa using h0
    have SC1 : Hid (Calls Tryz.prog 8 #[.string (bs t)] w fun e w' => ∃ a cap n, e = .returned (.tuple #[.slice a n cap, .int .i64 n1, .int .i64 n2]) ∧ Hid (Below w.heap.size w w')) := SC.out.mono fun e w' ⟨v, l, h1, h2, h3, h4⟩ => by
      obtain ⟨a, cap, rfl, hc⟩ := h2.out.cmds
      exact ⟨a, cap, l.length, h1, h4⟩
    go_enter Tryz.func10, Tryz.ntmps10
    go_wp2_with (go_at_call 8; (with_reducible refine SC1.out.mono ?_); rintro e w1 ⟨la, lc, l1, rfl, HB1⟩)
    go_ret3
    exact ⟨by rw [HA1.out]; rfl, HB1.out⟩
set_option maxHeartbeats 2000000 in
theorem refAssemble_any (t : List UInt8) (hs : t.length ≤ 1000000) (w : World) : Calls Tryz.prog 11 #[.string (bs t)] w fun e w' => e = .returned (.tuple #[.string (bs (asmV t).1), .int .i64 (asmV t).2.1, .int .i64 (asmV t).2.2]) ∧ Below w.heap.size w w' := by
  have SC : Hid (Calls Tryz.prog 9 #[.string (bs t)] w (GivesS (scriptV t) w)) := refScript_any (bs t) (by rw [Pen.bs_size]; exact hs) w
  obtain ⟨hok, hlen⟩ := scriptV_ok t
  have HOK : Hid (Okl (scriptV t).1) := hok
  have PK : Hid (∀ (a : Option Addr) (cap : Nat) (l : List CmdIn), Okl l → ∀ W, Below w.heap.size w W → Cmds W a l → Calls Tryz.prog 19 #[.slice a l.length cap] W fun e w' => e = .returned (.tuple #[.string (bs (packV l).1), .int .i64 (packV l).2]) ∧ Below W.heap.size W w') := fun a cap l hk W hb h => refPack_any a cap l l.length rfl hk W h
  obtain ⟨O, hO⟩ : ∃ O, Hid (asmV t = O) := ⟨_, rfl⟩
  have HA : Hid (O = if (scriptV t).2.2 = 0 then ((packV (scriptV t).1).1, 0, (packV (scriptV t).1).2) else ([], (scriptV t).2.1, (scriptV t).2.2)) := hO.out.symm
  rw [hO.out]
  generalize scriptV t = S at *
  obtain ⟨m, n1, n2⟩ := S
  dsimp only at HA HOK
  clear hok hlen hs hO
  by_cases h0 : n2 = 0
  · subst h0
    have HA1 : Hid (O = ((packV m).1, 0, (packV m).2)) := HA.out.trans (if_pos rfl)
    have SC1 : Hid (Calls Tryz.prog 9 #[.string (bs t)] w fun e w' => ∃ a cap l, e = .returned (.tuple #[.slice a (List.length l) cap, .int .i64 n1, .int .i64 0]) ∧ Hid (Cmds w' a l) ∧ Hid (EqvL l m) ∧ Hid (Below w.heap.size w w')) := SC.out.mono fun e w' ⟨v, l, h1, h2, h3, h4⟩ => by
      obtain ⟨a, cap, rfl, hc⟩ := h2.out.cmds
      exact ⟨a, cap, l, h1, hc, h3, h4⟩
    go_enter Tryz.func11, Tryz.ntmps11
    go_wp2_with (first
      | (go_at_call 9; (with_reducible refine SC1.out.mono ?_); rintro e w1 ⟨la, lc, l1, rfl, HC1, HE1, HB1⟩)
      | (go_at_call 19; (with_reducible refine (PK.out la lc l1 (Okl.eqv HE1.out HOK.out) _ HB1.out HC1.out).mono ?_); rintro e w2 ⟨rfl, hb2⟩; have HB2 := Lib.hid (below2 HB1.out hb2); clear hb2))
    go_ret3
    exact ⟨by rw [HA1.out, (textV_eqv HE1.out).2]; rfl, HB2.out⟩
  · have HA1 : Hid (O = ([], n1, n2)) := HA.out.trans (if_neg h0)
    have hne : ((n2 : Int) != 0) = true := by simpa using h0
    have SC1 : Hid (Calls Tryz.prog 9 #[.string (bs t)] w fun e w' => ∃ a cap n, e = .returned (.tuple #[.slice a n cap, .int .i64 n1, .int .i64 n2]) ∧ Hid (Below w.heap.size w w')) := SC.out.mono fun e w' ⟨v, l, h1, h2, h3, h4⟩ => by
      obtain ⟨a, cap, rfl, hc⟩ := h2.out.cmds
      exact ⟨a, cap, l.length, h1, h4⟩
    go_enter Tryz.func11, Tryz.ntmps11
    go_wp2_with (go_at_call 9; (with_reducible refine SC1.out.mono ?_); rintro e w1 ⟨la, lc, l1, rfl, HB1⟩)
    go_ret3
    exact ⟨by rw [HA1.out]; rfl, HB1.out⟩
set_option maxHeartbeats 2000000 in
theorem disassemble_any (s : ByteArray) (hs : s.size ≤ 10000000) (w : World) (hE : Env w) : Calls Tryz.prog 16 #[.string s] w fun e w' => e = .returned (.tuple #[.string (bs (disV s.data.toList).1), .int .i64 (disV s.data.toList).2]) ∧ Below w.heap.size w w' := by
  have SC : Hid (Calls Tryz.prog 17 #[.string s] w (GivesU (unpackV s.data.toList) w)) := unpack_any s hs w hE
  obtain ⟨hok, hlen⟩ := unpackV_ok s.data.toList
  have HOK : Hid (Okl (unpackV s.data.toList).1) := fun c hc => ⟨(hok c hc).cok, (hok c hc).clear⟩
  have PK : Hid (∀ (a : Option Addr) (cap : Nat) (l : List CmdIn), Okl l → ∀ W, Below w.heap.size w W → Cmds W a l → Calls Tryz.prog 14 #[.slice a l.length cap] W fun e w' => e = .returned (.tuple #[.string (bs (textV l).1), .int .i64 (textV l).2]) ∧ Below W.heap.size W w') := fun a cap l hk W hb h => text_any a cap l l.length rfl hk W h (hE.below hb)
  obtain ⟨O, hO⟩ : ∃ O, Hid (disV s.data.toList = O) := ⟨_, rfl⟩
  have HA : Hid (O = if (unpackV s.data.toList).2 = 0 then textV (unpackV s.data.toList).1 else ([], (unpackV s.data.toList).2)) := hO.out.symm
  rw [hO.out]
  generalize unpackV s.data.toList = S at *
  obtain ⟨m, n2⟩ := S
  dsimp only at HA HOK
  clear hok hlen hs hO hE
  by_cases h0 : n2 = 0
  · subst h0
    have HA1 : Hid (O = textV m) := HA.out.trans (if_pos rfl)
    have SC1 : Hid (Calls Tryz.prog 17 #[.string s] w fun e w' => ∃ a cap l, e = .returned (.tuple #[.slice a (List.length l) cap, .int .i64 0]) ∧ Hid (Cmds w' a l) ∧ Hid (EqvL l m) ∧ Hid (Below w.heap.size w w')) := SC.out.mono fun e w' ⟨v, l, h1, h2, h3, h4⟩ => by
      obtain ⟨a, cap, rfl, hc⟩ := h2.out.cmds
      exact ⟨a, cap, l, h1, hc, h3, h4⟩
    go_enter Tryz.func16, Tryz.ntmps16
    go_wp2_with (first
      | (go_at_call 17; (with_reducible refine SC1.out.mono ?_); rintro e w1 ⟨la, lc, l1, rfl, HC1, HE1, HB1⟩)
      | (go_at_call 14; (with_reducible refine (PK.out la lc l1 (Okl.eqv HE1.out HOK.out) _ HB1.out HC1.out).mono ?_); rintro e w2 ⟨rfl, hb2⟩; have HB2 := Lib.hid (below2 HB1.out hb2); clear hb2))
    go_ret2
    exact ⟨by rw [HA1.out, (textV_eqv HE1.out).1]; rfl, HB2.out⟩
  · have HA1 : Hid (O = ([], n2)) := HA.out.trans (if_neg h0)
    have hne : ((n2 : Int) != 0) = true := by simpa using h0
    have SC1 : Hid (Calls Tryz.prog 17 #[.string s] w fun e w' => ∃ a cap n, e = .returned (.tuple #[.slice a n cap, .int .i64 n2]) ∧ Hid (Below w.heap.size w w')) := SC.out.mono fun e w' ⟨v, l, h1, h2, h3, h4⟩ => by
      obtain ⟨a, cap, rfl, hc⟩ := h2.out.cmds
      exact ⟨a, cap, l.length, h1, h4⟩
    go_enter Tryz.func16, Tryz.ntmps16
    go_wp2_with (go_at_call 17; (with_reducible refine SC1.out.mono ?_); rintro e w1 ⟨la, lc, l1, rfl, HB1⟩)
    go_ret2
    exact ⟨by rw [HA1.out]; rfl, HB1.out⟩
set_option maxHeartbeats 2000000 in
theorem refDisassemble_any (s : ByteArray) (hs : s.size ≤ 10000000) (w : World) : Calls Tryz.prog 21 #[.string s] w fun e w' => e = .returned (.tuple #[.string (bs (disV s.data.toList).1), .int .i64 (disV s.data.toList).2]) ∧ Below w.heap.size w w' := by
  have SC : Hid (Calls Tryz.prog 20 #[.string s] w (GivesU (unpackV s.data.toList) w)) := refUnpack_any s hs w
  obtain ⟨hok, hlen⟩ := unpackV_ok s.data.toList
  have HOK : Hid (Okl (unpackV s.data.toList).1) := fun c hc => ⟨(hok c hc).cok, (hok c hc).clear⟩
  have PK : Hid (∀ (a : Option Addr) (cap : Nat) (l : List CmdIn), Okl l → ∀ W, Below w.heap.size w W → Cmds W a l → Calls Tryz.prog 18 #[.slice a l.length cap] W fun e w' => e = .returned (.tuple #[.string (bs (textV l).1), .int .i64 (textV l).2]) ∧ Below W.heap.size W w') := fun a cap l hk W hb h => refText_any a cap l l.length rfl hk W h
  obtain ⟨O, hO⟩ : ∃ O, Hid (disV s.data.toList = O) := ⟨_, rfl⟩
  have HA : Hid (O = if (unpackV s.data.toList).2 = 0 then textV (unpackV s.data.toList).1 else ([], (unpackV s.data.toList).2)) := hO.out.symm
  rw [hO.out]
  generalize unpackV s.data.toList = S at *
  obtain ⟨m, n2⟩ := S
  dsimp only at HA HOK
  clear hok hlen hs hO
  by_cases h0 : n2 = 0
  · subst h0
    have HA1 : Hid (O = textV m) := HA.out.trans (if_pos rfl)
    have SC1 : Hid (Calls Tryz.prog 20 #[.string s] w fun e w' => ∃ a cap l, e = .returned (.tuple #[.slice a (List.length l) cap, .int .i64 0]) ∧ Hid (Cmds w' a l) ∧ Hid (EqvL l m) ∧ Hid (Below w.heap.size w w')) := SC.out.mono fun e w' ⟨v, l, h1, h2, h3, h4⟩ => by
      obtain ⟨a, cap, rfl, hc⟩ := h2.out.cmds
      exact ⟨a, cap, l, h1, hc, h3, h4⟩
    go_enter Tryz.func21, Tryz.ntmps21
    go_wp2_with (first
      | (go_at_call 20; (with_reducible refine SC1.out.mono ?_); rintro e w1 ⟨la, lc, l1, rfl, HC1, HE1, HB1⟩)
      | (go_at_call 18; (with_reducible refine (PK.out la lc l1 (Okl.eqv HE1.out HOK.out) _ HB1.out HC1.out).mono ?_); rintro e w2 ⟨rfl, hb2⟩; have HB2 := Lib.hid (below2 HB1.out hb2); clear hb2))
    go_ret2
    exact ⟨by rw [HA1.out, (textV_eqv HE1.out).1]; rfl, HB2.out⟩
  · have HA1 : Hid (O = ([], n2)) := HA.out.trans (if_neg h0)
    have hne : ((n2 : Int) != 0) = true := by simpa using h0
    have SC1 : Hid (Calls Tryz.prog 20 #[.string s] w fun e w' => ∃ a cap n, e = .returned (.tuple #[.slice a n cap, .int .i64 n2]) ∧ Hid (Below w.heap.size w w')) := SC.out.mono fun e w' ⟨v, l, h1, h2, h3, h4⟩ => by
      obtain ⟨a, cap, rfl, hc⟩ := h2.out.cmds
      exact ⟨a, cap, l.length, h1, h4⟩
    go_enter Tryz.func21, Tryz.ntmps21
    go_wp2_with (go_at_call 20; (with_reducible refine SC1.out.mono ?_); rintro e w1 ⟨la, lc, l1, rfl, HB1⟩)
    go_ret2
    exact ⟨by rw [HA1.out]; rfl, HB1.out⟩
set_option maxHeartbeats 4000000 in
/-- Lists of commands that say the same are the same. -/
theorem sameL_any (a b : Option Addr) (c1 c2 : Nat) (l m : List CmdIn) (n : Nat) (hn : l.length = n) (hnb : n ≤ 1000000) (he : EqvL l m) (hk : ∀ c ∈ l, c.gives.length ≤ 100 ∧ c.wants.length ≤ 100) (w : World) (ha : Cmds w a l) (hb : Cmds w b m) : Calls Tryz.prog 12 #[.slice a n c1, .slice b n c2] w fun e w' => e = .returned (.bool true) ∧ Below w.heap.size w w' := by
  have HN := Lib.hid hn
  have HM : Hid (m.length = n) := by show _ = _; rw [← he.length]; exact hn
  have HE := Lib.hid he
  have HK := Lib.hid hk
  have HA := Lib.hid ha
  have HB := Lib.hid hb
  have CS : Hid (∀ (x y : CmdIn) W, Eqv x y → Lies W x → Lies W y → x.gives.length ≤ 100 ∧ x.wants.length ≤ 100 → Calls Tryz.prog 31 #[.agg x.val, .agg y.val] W fun e w' => e = .returned (.bool true) ∧ Below W.heap.size W w') := fun x y W h1 h2 h3 h4 => Cmd.sameC_any x y W h1 h2 h3 h4
  clear hn he hk ha hb
  go_enter Tryz.func12, Tryz.ntmps12
  go_wp2
  go_loopw [5] (fun i wr => ∃ k : Nat, k ≤ n ∧ i = .int .i64 (k : Int) ∧ Hid (Below w.heap.size w wr)) (fun i _ => n - (intOf i).toNat)
  case atStart => exact ⟨0, Nat.zero_le _, rfl, Below.refl _ _⟩
  case round =>
    obtain ⟨k, hkN, rfl, HBl⟩ := hrel
    by_cases hlt : k < n
    · have dk : decide ((k : Int) < (n : Int)) = true := decide_eq_true (by omega)
      have hlt1 : (k : Int) < (n : Int) := by omega
      have hkl : k < l.length := by rw [HN.out]; exact hlt
      have hkm : k < m.length := by rw [HM.out]; exact hlt
      obtain ⟨b1, o1, rfl, hb1, hr1, hl1⟩ := (Cmds.below HA.out HBl.out) k hkl
      obtain ⟨b2, o2, rfl, hb2, hr2, hl2⟩ := (Cmds.below HB.out HBl.out) k hkm
      have HQ := Lib.hid (HE.out.get k hkl)
      have HF := Lib.hid (HK.out _ (getD_in hkl))
      have HR1 := Lib.hid hr1
      have HR2 := Lib.hid hr2
      have HL1 := Lib.hid hl1
      have HL2 := Lib.hid hl2
      clear hr1 hr2 hl1 hl2
      generalize l.getD k zeroC = x at *
      generalize m.getD k zeroC = y at *
      have CC : Hid (∀ W, Below wr.heap.size wr W → Calls Tryz.prog 31 #[.agg x.val, .agg y.val] W fun e w' => e = .returned (.bool true) ∧ Below W.heap.size W w') := fun W h => CS.out x y W HQ.out (HL1.out.below h) (HL2.out.below h) HF.out
      have FL : Hid (∀ V, Hid (Below wr.heap.size wr V) → V.rangeAt b1 (o1 + k * 22) x.val.toList ∧ V.rangeAt b2 (o2 + k * 22) y.val.toList) := fun V hV => ⟨rangeAt_block HR1.out (hV.out.block b1 hb1), rangeAt_block HR2.out (hV.out.block b2 hb2)⟩
      have B0 : Hid (Below wr.heap.size wr wr.drew) := (Below.refl _ _).drew
      go_upto_region 6 with fail
      refine Ord.wp_region_U (fun V => V.rangeAt b1 (o1 + k * 22) x.val.toList ∧ V.rangeAt b2 (o2 + k * 22) y.val.toList) [9] (by kernel_rfl) ?_
      have hHeld := FL.out _ B0
      refine Ord.wpAnyU_take (i := 0) (v := ?_) rfl (by kernel_rfl) (by kernel_rfl) (by kernel_rfl) (by kernel_rfl) (by kernel_rfl) (by kernel_rfl) (by kernel_rfl) (fun _ _ _ h => h) (Or.inl ⟨by rfl, ?_⟩) hHeld ?_
      rotate_left
      · intro w hSw; (try dsimp only at hSw); go_simp; (try with_reducible rfl)
      try simp only [Act.put, List.setIfInBounds_toArray, List.set_cons_zero, List.set_cons_succ]
      refine Ord.wpAnyU_take (i := 1) (v := ?_) rfl (by kernel_rfl) (by kernel_rfl) (by kernel_rfl) (by kernel_rfl) (by kernel_rfl) (by kernel_rfl) (by kernel_rfl) (fun _ _ _ h => h) (Or.inl ⟨by rfl, ?_⟩) hHeld ?_
      rotate_left
      · intro w hSw; (try dsimp only at hSw); go_simp; (try with_reducible rfl)
      try simp only [Act.put, List.setIfInBounds_toArray, List.set_cons_zero, List.set_cons_succ]
      refine Ord.wpAnyU_take (i := 2) (v := ?_) rfl (by kernel_rfl) (by kernel_rfl) (by kernel_rfl) (by kernel_rfl) (by kernel_rfl) (by kernel_rfl) (by kernel_rfl) (fun _ _ _ h => h) (Or.inl ⟨by rfl, ?_⟩) hHeld ?_
      rotate_left
      · intro w hSw; (try dsimp only at hSw); go_simp; (try with_reducible rfl)
      try simp only [Act.put, List.setIfInBounds_toArray, List.set_cons_zero, List.set_cons_succ]
      refine Ord.wpAnyU_take (i := 3) (v := .agg x.val) rfl (by kernel_rfl) (by kernel_rfl) (by kernel_rfl) (by kernel_rfl) (by kernel_rfl) (by kernel_rfl) (by kernel_rfl) (fun _ _ _ h => h) (yield_cmd (by rfl) (.tmp 25) rfl b1 (o1 + k * 22) rfl x (fun w h => h.1)) hHeld ?_
      try simp only [Act.put, List.setIfInBounds_toArray, List.set_cons_zero, List.set_cons_succ]
      refine Ord.wpAnyU_take (i := 4) (v := ?_) rfl (by kernel_rfl) (by kernel_rfl) (by kernel_rfl) (by kernel_rfl) (by kernel_rfl) (by kernel_rfl) (by kernel_rfl) (fun _ _ _ h => h) (Or.inl ⟨by rfl, ?_⟩) hHeld ?_
      rotate_left
      · intro w hSw; (try dsimp only at hSw); go_simp; (try with_reducible rfl)
      try simp only [Act.put, List.setIfInBounds_toArray, List.set_cons_zero, List.set_cons_succ]
      refine Ord.wpAnyU_take (i := 5) (v := ?_) rfl (by kernel_rfl) (by kernel_rfl) (by kernel_rfl) (by kernel_rfl) (by kernel_rfl) (by kernel_rfl) (by kernel_rfl) (fun _ _ _ h => h) (Or.inl ⟨by rfl, ?_⟩) hHeld ?_
      rotate_left
      · intro w hSw; (try dsimp only at hSw); go_simp; (try with_reducible rfl)
      try simp only [Act.put, List.setIfInBounds_toArray, List.set_cons_zero, List.set_cons_succ]
      refine Ord.wpAnyU_take (i := 6) (v := ?_) rfl (by kernel_rfl) (by kernel_rfl) (by kernel_rfl) (by kernel_rfl) (by kernel_rfl) (by kernel_rfl) (by kernel_rfl) (fun _ _ _ h => h) (Or.inl ⟨by rfl, ?_⟩) hHeld ?_
      rotate_left
      · intro w hSw; (try dsimp only at hSw); go_simp; (try with_reducible rfl)
      try simp only [Act.put, List.setIfInBounds_toArray, List.set_cons_zero, List.set_cons_succ]
      refine Ord.wpAnyU_take (i := 7) (v := .agg y.val) rfl (by kernel_rfl) (by kernel_rfl) (by kernel_rfl) (by kernel_rfl) (by kernel_rfl) (by kernel_rfl) (by kernel_rfl) (fun _ _ _ h => h) (yield_cmd (by rfl) (.tmp 29) rfl b2 (o2 + k * 22) rfl y (fun w h => h.2)) hHeld ?_
      try simp only [Act.put, List.setIfInBounds_toArray, List.set_cons_zero, List.set_cons_succ]
      refine Ord.wpAnyU_one (i := 8) (by kernel_rfl) rfl (fun K hK => ?_)
      go_simp
      go_wp2_with (go_at_call 31; (with_reducible refine (CC.out _ B0.out).mono ?_); rintro e w5 ⟨rfl, hb5⟩; have B5 : Hid (Below wr.heap.size wr w5) := below2 B0.out hb5)
      have hHeld := FL.out _ B5
      refine hK.out _ _ (fun _ => hHeld) ?_
      clear hK K
      try simp only [Act.put, List.setIfInBounds_toArray, List.set_cons_zero, List.set_cons_succ]
      refine Ord.wpAnyU_one (i := 9) (by kernel_rfl) rfl (fun K hK => ?_)
      go_simp
      refine hK.out _ _ (fun h => by cases h) ?_
      clear hK K
      try simp only [Act.put, List.setIfInBounds_toArray, List.set_cons_zero, List.set_cons_succ]
      refine Ord.wpAnyU_done (by kernel_rfl) ?_ _
      have HBB : Hid (Below w.heap.size w w5) := below2 HBl.out B5.out
      go_wp2
      go_roundw
      case rel => exact ⟨k + 1, by omega, by go_num, HBB⟩
      case measure => simp [intOf]; omega
    · have dk : decide ((k : Int) < (n : Int)) = false := decide_eq_false (by omega)
      have hlt1 : ¬ (k : Int) < (n : Int) := by omega
      go_wp2
      go_ret
      exact ⟨rfl, HBl.out⟩
end Asm
end Go.Proofs.YtlhalhilnkneeaaGreatDoor
end
