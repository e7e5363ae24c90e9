/- Texts put together: AsmI, AsmJ, AsmK, AsmM, AsmO, AsmP, AsmU. -/
import Derived.Test.YtlhalhilnkneeaaGreatDoorM17
import Derived.Test.YtlhalhilnkneeaaGreatDoorM07
import Derived.Lib.OthersKept
set_option linter.all false
section
set_option maxRecDepth 100000
namespace Go.Proofs.YtlhalhilnkneeaaGreatDoor
open Go.RowKit Go.Great Go.Sort
namespace Asm
open Go.Lib (decDigits itoa)
open Pen (bs)
open In (strVals Strs)
open Frm (rows)
open Rec (below2 below_al below_dN Stk Stks stkVals)
open Cmd (Gives)
set_option maxHeartbeats 4000000 in
theorem deskNumber_any (l : List UInt8) (hl : l.length ≤ 1000000) (w : World) (hE : Env w) : Calls Tryz.prog 104 #[.string (bs l)] w (NumRes l w) := by
  have PA := Lib.hid (parse_any l hl w hE)
  have FA : Hid (∀ (x : Int), Pen.I64 x → ∀ W, Below w.heap.size w W → Calls Tryz.prog 133 #[.int .i64 x, .int .i64 10] W fun e w' => e = .returned (.string (bs (itoa x))) ∧ Below W.heap.size W w') := fun x hx W hb => format_any x hx W (hE.below hb)
  clear hE
  go_enter Tryz.func104, Tryz.ntmps104
  go_wp2_with (go_at_call 132; (with_reducible refine PA.out.mono ?_); rintro e w1 ⟨(⟨v, hv, rfl⟩ | ⟨hn, x, tp, p, rfl⟩), hb1⟩)
  · have hI : Pen.I64 v := by
      have hb := Lib.parseIntB_bounds hv.out
      have e63 : ((2 ^ (64 - 1) : Nat) : Int) = 9223372036854775808 := by decide
      rw [e63] at hb
      exact ⟨hb.1, by omega⟩
    have QE : Hid (((bs (itoa v)).toList == (bs l).toList) = decide (itoa v = l)) := by
      show _ = _
      rw [bs_toList, bs_toList, Bool.eq_iff_iff]
      simp
    have hNN : Hid (numL l = if itoa v = l then some v else none) := by
      show _ = _
      unfold numL
      rw [hv.out]
    have FV := Lib.hid (FA.out v hI)
    by_cases he : itoa v = l
    · have d1 := QE.out.trans (decide_eq_true he)
      have hr := hNN.out.trans (if_pos he)
      go_wp2_with (go_at_call 133; (with_reducible refine (FV.out _ hb1).mono ?_); rintro e w2 ⟨rfl, hb2⟩)
      go_ret2
      exact NumRes.mk (Or.inl ⟨rfl, hr⟩) (below2 hb1 hb2)
    · have d1 := QE.out.trans (decide_eq_false he)
      have hr := hNN.out.trans (if_neg he)
      go_wp2_with (go_at_call 133; (with_reducible refine (FV.out _ hb1).mono ?_); rintro e w2 ⟨rfl, hb2⟩)
      go_ret2
      exact NumRes.mk (Or.inr ⟨rfl, hr⟩) (below2 hb1 hb2)
  · have hr := hn.out
    go_wp2
    go_ret2
    exact NumRes.mk (Or.inr ⟨rfl, hr⟩) hb1
end Asm
end Go.Proofs.YtlhalhilnkneeaaGreatDoor
end
section
set_option maxRecDepth 100000
namespace Go.Proofs.YtlhalhilnkneeaaGreatDoor
open Go.RowKit Go.Great Go.Sort
namespace Asm
open Go.Lib (decDigits itoa)
open Pen (bs)
open In (strVals Strs)
open Frm (rows)
open Rec (below2 below_al below_dN Stk Stks stkVals stkVals_append stkVals_length stks_of_own list_pair pair_new)
open Cmd (Gives Snum)
theorem cutS_no (b : UInt8) (l : List UInt8) (h : (cutS b l).2.2 = false) : (cutS b l).2.1 = [] := by
  unfold cutS at h ⊢
  cases hc : cutL b l with
  | none => rfl
  | some p => rw [hc] at h; cases h
theorem num_nil : numL [] = none := by rfl
theorem num_no {l : List UInt8} {y : Int} {q : Bool} (h : NumIs l y q) (hl : l = []) : q = false := by
  subst hl
  rcases h with ⟨-, h⟩ | ⟨h, -⟩
  · rw [num_nil] at h; cases h
  · exact h
set_option maxHeartbeats 4000000 in
theorem deskStacks_any (s : ByteArray) (hs : s.size ≤ 1000000) (w : World) (hE : Env w) : Calls Tryz.prog 103 #[.string s] w (StkRes (stksL s.data.toList) w) := by
  obtain ⟨i0, hi, hz0, hz1, hz2⟩ := info_parts kinfo
  have hlen : s.data.toList.length = s.size := by simp
  have SP : Hid (Calls Tryz.prog 24 #[.string s, .string (bs [44])] w (Gives (rows (splitL 44 s.data.toList)) w)) := split_any s.data.toList 44 (by rw [hlen]; exact hs) w hE
  have CU : Hid (∀ (P : List UInt8), P.length ≤ 1000000 → ∀ W, Below w.heap.size w W → Calls Tryz.prog 52 #[.string (bs P), .string (bs [120])] W fun e w' => e = .returned (.tuple #[.string (bs (cutS 120 P).1), .string (bs (cutS 120 P).2.1), .bool (cutS 120 P).2.2]) ∧ Below W.heap.size W w') := fun P hP W hb => cut_any P 120 hP W (hE.below hb)
  have NU : Hid (∀ (P : List UInt8), P.length ≤ 1000000 → ∀ W, Below w.heap.size w W → Calls Tryz.prog 104 #[.string (bs P)] W (NumRes P W)) := fun P hP W hb => deskNumber_any P hP W (hE.below hb)
  have hpl : (splitL 44 s.data.toList).length ≤ 1000001 := by
    rw [splitL_len]
    have h := List.count_le_length (a := (44 : UInt8)) (l := s.data.toList)
    rw [hlen] at h
    omega
  have hpe : Hid (∀ p ∈ splitL 44 s.data.toList, p.length ≤ 1000000) := fun p hp => by
    have := splitL_mem 44 _ p hp
    omega
  have hO : Hid (stksL s.data.toList = if 8 < (splitL 44 s.data.toList).length then none else allO ((splitL 44 s.data.toList).map stkL)) := rfl
  rw [hO.out]
  generalize splitL 44 s.data.toList = PS at *
  obtain ⟨N, hN⟩ : ∃ N, Hid ((rows PS).length = N) := ⟨_, rfl⟩
  have hN2 : Hid (PS.length = N) := by rw [← hN.out]; exact (rows_len PS).symm
  have hNl : N ≤ 1000001 := by rw [← hN2.out]; exact hpl
  obtain ⟨O, hOO⟩ : ∃ O, Hid ((if 8 < PS.length then none else allO (PS.map stkL)) = O) := ⟨_, rfl⟩
  rw [hOO.out]
  clear hpl
  clear hE
  go_enter Tryz.func103, Tryz.ntmps103
  have e44 : (⟨#[44]⟩ : ByteArray) = bs [44] := rfl
  have e120 : (⟨#[120]⟩ : ByteArray) = bs [120] := rfl
  by_cases h8 : 8 < N
  · have g8 : (8 : Int) < (N : Int) := by omega
    have HR : Hid (O = none) := by show _ = _; rw [← hOO.out, if_pos (by rw [hN2.out]; exact h8)]
    go_wp2_with (go_at_call 24; (with_reducible refine (SP.out).mono ?_); rintro e w1 ⟨pa, pc, rfl, HS, HB1, -⟩; rw [hN.out])
    go_ret2
    exact StkRes.no HR.out HB1.out
  have g8 : ¬ (8 : Int) < (N : Int) := by omega
  go_wp2_with (go_at_call 24; (with_reducible refine (SP.out).mono ?_); rintro e w1 ⟨pa, pc, rfl, HS, HB1, -⟩; rw [hN.out])
  go_loopw [5, 22] (fun v5 v6 wr => ∃ (k : Nat) (l : List Stk), k ≤ N ∧ v6 = .int .i64 (k : Int) ∧ Hid (l.length = k) ∧ Hid (allO ((PS.map stkL).take k) = some l) ∧ Hid (wr.ownsRow w1.heap.size 106 2 v5 k (stkVals l)) ∧ Hid (Below w1.heap.size w1 wr)) (fun _ v6 _ => N - (intOf v6).toNat)
  case atStart => exact ⟨0, [], Nat.zero_le _, rfl, rfl, rfl, World.ownsRow_nil _ _ _ _, Below.refl _ _⟩
  case round =>
    obtain ⟨k, l, hk, rfl, HL, HM, HO, HB⟩ := hrel
    by_cases hlt : k < N
    · have dk : decide ((k : Int) < (N : Int)) = true := decide_eq_true (by omega)
      have hlt1 : (k : Int) < (N : Int) := by omega
      have hkl : k < PS.length := by rw [hN2.out]; exact hlt
      obtain ⟨b, off, rfl, hbl, hc⟩ := (HS.out.below HB.out) k (by rw [hN.out]; exact hlt)
      rw [rows_getD] at hc
      have hPm : PS.getD k [] ∈ PS := by rw [List.getD_eq_getElem?_getD, List.getElem?_eq_getElem hkl]; exact List.getElem_mem _
      have hPl := hpe.out _ hPm
      have AN := allO_next (PS.map stkL) k (by simpa using hkl) l HM.out
      have hmk : (PS.map stkL)[k]'(by simpa using hkl) = stkL (PS.getD k []) := by
        rw [List.getElem_map, List.getD_eq_getElem?_getD, List.getElem?_eq_getElem hkl]; rfl
      rw [hmk] at AN
      have ON : Hid (stkL (PS.getD k []) = none → O = none) := fun h => by
        rw [← hOO.out]
        split
        · rfl
        · exact AN.2 h
      have OS := Lib.hid AN.1
      clear AN hmk hPm
      generalize PS.getD k [] = P at *
      have SC := Lib.hid (stkL_cut P)
      have CP := Lib.hid (CU.out P hPl)
      have cl := cutS_len 120 P
      have C0 := Lib.hid (cutS_no 120 P)
      generalize cutS 120 P = CS at *
      obtain ⟨c1, c2, c3⟩ := CS
      have N1 := Lib.hid (NU.out c1 (by have := cl.1; dsimp only at this; omega))
      have N2 := Lib.hid (NU.out c2 (by have := cl.2; dsimp only at this; omega))
      clear cl hPl
      dsimp only at SC CP C0
      cases c3 with
      | false =>
        have HR := Lib.hid (ON.out (by rw [SC.out]; simp))
        go_wp2_with (first
        | (go_at_call 52; (with_reducible refine (CP.out _ (below2 HB1.out HB.out)).mono ?_); rintro e w3 ⟨rfl, hb3⟩; have HB3 := Lib.hid (below2 HB.out hb3))
        | (go_at_call 104; (with_reducible refine (N1.out _ (below2 HB1.out HB3.out)).mono ?_); rintro e w4 ⟨⟨x, p, rfl, hp⟩, hb4⟩; have HP := Lib.hid hp; have HB4 := Lib.hid (below2 HB3.out hb4); clear hp; cases p)
        | (go_at_call 104; (with_reducible refine (N2.out _ (below2 HB1.out HB4.out)).mono ?_); rintro e w5 ⟨⟨y, q, rfl, hq⟩, hb5⟩; obtain rfl := num_no hq (C0.out trivial); have HB5 := Lib.hid (below2 HB4.out hb5); clear hq))
        all_goals
          go_ret2
          exact StkRes.no HR.out (below2 HB1.out HB5.out)
      | true =>
        go_wp2_with (first
        | (go_at_call 52; (with_reducible refine (CP.out _ (below2 HB1.out HB.out)).mono ?_); rintro e w3 ⟨rfl, hb3⟩; have HB3 := Lib.hid (below2 HB.out hb3))
        | (go_at_call 104; (with_reducible refine (N1.out _ (below2 HB1.out HB3.out)).mono ?_); rintro e w4 ⟨⟨x, p, rfl, hp⟩, hb4⟩; have HP := Lib.hid hp; have HB4 := Lib.hid (below2 HB3.out hb4); clear hp; cases p)
        | (go_at_call 104; (with_reducible refine (N2.out _ (below2 HB1.out HB4.out)).mono ?_); rintro e w5 ⟨⟨y, q, rfl, hq⟩, hb5⟩; have HQ := Lib.hid hq; have HB5 := Lib.hid (below2 HB4.out hb5); clear hq; have HO5 := Lib.hid (Own.own_below HO.out (below2 (below2 hb3 hb4) hb5)); cases q)
        | (at_builtin; refine list_pair rfl (.tmp 48) (.tmp 52) 39 rfl w1.heap.size 106 i0 _ 16 Tryz.underlying39 hi hz0 hz1 hz2 rfl _ k _ rfl _ _ _ _ rfl (HO5.out.alloc _) (pair_new _ _ _ _).1 (pair_new _ _ _ _).2 rfl rfl ?h1 ?h2 ?h3 ?_; (case h1 => unfold maxLen; omega); (case h2 => omega); (case h3 => have := HB5.out.size; simp; omega); intro v' w6 hown6 hgrow6))
        · have HR := Lib.hid (ON.out (by rw [SC.out]; simp [num_is HP.out, num_is HQ.out]))
          go_ret2
          exact StkRes.no HR.out (below2 HB1.out HB5.out)
        · have HR := Lib.hid (ON.out (by rw [SC.out]; simp [num_is HP.out, num_is HQ.out]))
          go_ret2
          exact StkRes.no HR.out (below2 HB1.out HB5.out)
        · have HR := Lib.hid (ON.out (by rw [SC.out]; simp [num_is HP.out, num_is HQ.out]))
          go_ret2
          exact StkRes.no HR.out (below2 HB1.out HB5.out)
        · have HR := Lib.hid (OS.out (x, y) (by rw [SC.out]; simp [num_is HP.out, num_is HQ.out]))
          have hb6 := (HB5.out.alloc HB5.out.size _).grown hgrow6 (by have := HB5.out.size; simp; omega) (Own.own_block HO5.out (Nat.le_refl _))
          have HB6 := Lib.hid hb6
          have hown7 : Hid (w6.ownsRow w1.heap.size 106 2 v' (k + 1) (stkVals (l ++ [(x, y)]))) := by
            show World.ownsRow _ _ _ _ _ _ _
            rw [stkVals_append]
            exact hown6
          have HL2 : Hid ((l ++ [(x, y)]).length = k + 1) := by
            show _ = _
            rw [List.length_append, HL.out]
            rfl
          clear hown6 hgrow6 hb6
          go_roundw
          case rel => exact ⟨k + 1, l ++ [(x, y)], by omega, by go_num, HL2, HR, hown7, HB6⟩
          case measure => simp [intOf]; omega
    · have dk : decide ((k : Int) < (N : Int)) = false := decide_eq_false (by omega)
      have hlt1 : ¬ (k : Int) < (N : Int) := by omega
      have hkN : k = N := by omega
      have htk : (PS.map stkL).take k = PS.map stkL := List.take_of_length_le (by rw [List.length_map, hN2.out]; omega)
      have HM2 := HM.out
      rw [htk] at HM2
      have HBB := Lib.hid (below2 HB1.out HB.out)
      have HO2 := HO.out
      rw [← HL.out] at HO2
      obtain ⟨oa, oc, rfl, -⟩ := stks_of_own HO2
      have hll := HL.out
      · have HR : Hid (O = some l) := by show _ = _; rw [← hOO.out, if_neg (by rw [hN2.out]; exact h8), HM2]
        clear hkN hll
        go_wp2
        go_ret2
        exact StkRes.yes HR.out rfl (own_base HO2 HB1.out.size) HBB.out
end Asm
end Go.Proofs.YtlhalhilnkneeaaGreatDoor
end
section
set_option maxRecDepth 100000
namespace Go.Proofs.YtlhalhilnkneeaaGreatDoor
open Go.RowKit Go.Great Go.Sort
namespace Asm
open Go.Lib (decDigits itoa)
open Pen (bs)
open In (strVals Strs)
open Frm (rows)
open Rec (below2 below_al below_dN Stk Stks stkVals stkVals_append stkVals_length stks_of_own list_pair pair_new)
open Cmd (Gives Snum)
theorem join_tail (b : UInt8) : ∀ (x : List UInt8) (l : List (List UInt8)), joinL b (x :: l) = x ++ Lib.joinTail [b] l
  | x, [] => by simp [joinL, Lib.joinTail]
  | x, y :: l => by
    rw [joinL, join_tail b y l]
    simp [Lib.joinTail]
theorem join_lib (b : UInt8) (l : List (List UInt8)) : Lib.join l [b] = joinL b l := by
  cases l with
  | nil => rfl
  | cons x l => rw [Lib.join_cons, join_tail]
/-- Texts put together by the library. -/
theorem join_any (F : List (List UInt8)) (b : UInt8) (v : Value) (W : World) (base : Nat) (h : W.ownsRow base 9 1 v F.length (strVals (rows F))) (hn : F.length ≤ 1000000) (hl : (joinL b F).length ≤ 10000000) : Calls Tryz.prog 34 #[v, .string (bs [b])] W fun e w' => e = .returned (.string (bs (joinL b F))) ∧ Below W.heap.size W w' := by
  have hF : (rows F).length = F.length := rows_len F
  rcases h with ⟨h1, ⟨rfl, h0⟩ | ⟨g, cap, cur, rfl, hg1, hg2, h4⟩⟩
  · have e : F = [] := List.length_eq_zero_iff.1 h0
    subst e
    refine (Tryz.strings_Join_none none 0 (bs [b]) W).mono ?_
    rintro e w' ⟨rfl, rfl⟩
    exact ⟨rfl, Below.refl _ _⟩
  · have hown : W.ownsRow base 9 1 (.slice (some ⟨g, 0, none⟩) F.length cap) F.length (strVals (rows F)) := ⟨h1, Or.inr ⟨g, cap, cur, rfl, hg1, hg2, h4⟩⟩
    rw [← hF] at hown ⊢
    obtain ⟨a, c2, e, hs⟩ := In.strs_of_own hown
    cases e
    have e1 : (rows F).map (·.data.toList) = F := by
      unfold Frm.rows
      rw [List.map_map]
      exact List.map_id _
    have e2 : Lib.join ((rows F).map (·.data.toList)) (bs [b]).data.toList = joinL b F := by
      rw [e1]
      exact join_lib b F
    refine (Tryz.strings_Join g 0 cap (rows F) (bs [b]) W (fun j x hx => ?_) (Array.getElem?_eq_some_iff.1 hg2).1 (by omega) ?_ (by rw [e2]; omega)).mono ?_
    · obtain ⟨hj, rfl⟩ := List.getElem?_eq_some_iff.1 hx
      obtain ⟨b', off, e, -, hc⟩ := hs j hj
      cases e
      rw [hc, List.getD_eq_getElem?_getD, hx]
      rfl
    · have := h4.1; omega
    · rintro e w' ⟨rfl, hb⟩
      rw [e2]
      exact ⟨rfl, hb⟩
/-- The texts of the first stacks. -/
def stkR (l : List Stk) (k : Nat) : List ByteArray := rows ((l.take k).map stkT)
theorem stkR_len (l : List Stk) (k : Nat) (h : k ≤ l.length) : (stkR l k).length = k := by
  unfold stkR
  rw [rows_len, List.length_map, List.length_take]
  omega
theorem stkR_next (l : List Stk) (k : Nat) (h : k < l.length) : stkR l (k + 1) = stkR l k ++ [bs (itoa (l.getD k (0, 0)).1 ++ [120] ++ itoa (l.getD k (0, 0)).2)] := by
  have e : l.take (k + 1) = l.take k ++ [l.getD k (0, 0)] := by
    rw [List.take_add_one, List.getElem?_eq_getElem h, List.getD_eq_getElem?_getD, List.getElem?_eq_getElem h]
    rfl
  unfold stkR
  rw [e, List.map_append]
  simp [rows, stkT, bs]
set_option maxHeartbeats 4000000 in
theorem deskList_any (a : Option Addr) (c : Nat) (l : List Stk) (n : Nat) (hn : l.length = n) (hl : n ≤ 100) (hi : Snum l) (w : World) (ha : Stks w a l) (hE : Env w) :
    Calls Tryz.prog 68 #[.slice a n c] w fun e w' => e = .returned (.string (bs (listT l))) ∧ Below w.heap.size w w' := by
  obtain ⟨i0, hii, hz0, hz1, hz2⟩ := info_parts Frm.sinfo
  have HA := Lib.hid ha
  have HN := Lib.hid hn
  have HI := Lib.hid (snum_mem hi)
  have NA : Hid (∀ (n : Int), I64 n → ∀ (W : World), Below w.heap.size w W → Calls Tryz.prog 67 #[.int .i64 n] W fun e w' => e = .returned (.string (bs (itoa n))) ∧ Below W.heap.size W w') := fun n hn W hb => Rep.itoa_any n ⟨hn.1, hn.2⟩ W (hE.below hb).tab
  have HS := Lib.hid (listT_small l hi (by omega))
  clear ha hn hi hE
  go_enter Tryz.func68, Tryz.ntmps68
  go_wp2
  go_loopw [3, 8] (fun s i wr => ∃ k : Nat, k ≤ n ∧ i = .int .i64 k ∧ Hid (wr.ownsRow w.heap.size 9 1 s k (strVals (stkR l k))) ∧ Hid (Below w.heap.size w wr)) (fun _ i _ => n - (intOf i).toNat)
  case atStart => exact ⟨0, by omega, rfl, World.ownsRow_nil _ _ _ _, Below.refl _ _⟩
  case round =>
    obtain ⟨k, hk, rfl, HO, HB⟩ := hrel
    by_cases hlt : k < n
    · have hkl : k < l.length := by rw [HN.out]; exact hlt
      obtain ⟨b, off, rfl, hbl, hc, hd⟩ := (Stks.below HA.out HB.out) k hkl
      have hm := HI.out (l.getD k (0, 0)) (by rw [List.getD_eq_getElem?_getD, List.getElem?_eq_getElem hkl]; exact List.getElem_mem _)
      have NX := Lib.hid (NA.out _ hm.1)
      have NY := Lib.hid (NA.out _ hm.2)
      have RN := Lib.hid (stkR_next l k hkl)
      have hx := itoa_len hm.1
      have hy := itoa_len hm.2
      have d1 : decide ((k : Int) < (n : Int)) = true := decide_eq_true (by omega)
      have hlt1 : (k : Int) < (n : Int) := by omega
      have hk0 : (0 : Int) ≤ k := by omega
      generalize (l.getD k (0, 0)).1 = X at *
      generalize (l.getD k (0, 0)).2 = Y at *
      obtain ⟨g, hg⟩ : ∃ g, wr.heap.size = g := ⟨_, rfl⟩
      go_upto_region 5 with (fail)
      refine Cmd.wp_named fun W hW => ?_
      have HWB : Hid (Below w.heap.size w W) := by rw [hW]; exact below_al HB.out _
      have hgW : g < W.heap.size := by rw [hW]; simp; omega
      have cX : W.cell? ⟨g, 0, none⟩ = some (.int .i64 X) := by rw [hW, ← hg]; exact (pair_new _ _ _ _).1
      have cY : W.cell? ⟨g, 1, none⟩ = some (.int .i64 Y) := by rw [hW, ← hg]; exact (pair_new _ _ _ _).2
      have HOW : Hid (W.ownsRow w.heap.size 9 1 u3 k (strVals (stkR l k))) := by rw [hW]; exact HO.out.alloc _
      have FL : Hid (∀ V, Hid (Below W.heap.size W V) → V.cell? ⟨g, 0, none⟩ = some (.int .i64 X) ∧ V.cell? ⟨g, 1, none⟩ = some (.int .i64 Y)) := fun V hV => ⟨(hV.out.cell (p := ⟨g, 0, none⟩) hgW).trans cX, (hV.out.cell (p := ⟨g, 1, none⟩) hgW).trans cY⟩
      have HBx0 : Hid (Below W.heap.size W W.drew) := (Below.refl _ _).drew
      have z1 : ¬ 9223372036854775807 < (bs (itoa X)).size + 1 := by rw [Pen.bs_size]; omega
      have z2 : ¬ 9223372036854775807 < (bs (itoa X)).size + 1 + (bs (itoa Y)).size := by rw [Pen.bs_size, Pen.bs_size]; omega
      have EE : Hid (bs (itoa X ++ [120] ++ itoa Y) = bs (itoa X) ++ ⟨#[120]⟩ ++ bs (itoa Y)) := by
        show _ = _
        rw [show (⟨#[120]⟩ : ByteArray) = bs [120] from rfl, bs_add, bs_add]
      clear hW cX cY
      refine Ord.wp_region_U (fun V => V.cell? ⟨g, 0, none⟩ = some (.int .i64 X) ∧ V.cell? ⟨g, 1, none⟩ = some (.int .i64 Y)) [10, 11] (by kernel_rfl) ?_
      have hHeld := FL.out _ HBx0
      refine Ord.wpAnyU_take (i := 0) (v := ?_) rfl (by kernel_rfl) (by kernel_rfl) (by kernel_rfl) (by kernel_rfl) (by kernel_rfl) (by kernel_rfl) (by kernel_rfl) (fun _ _ _ h => h) (Or.inl ⟨by rfl, ?_⟩) hHeld ?_
      rotate_left
      · intro w hSw; (try dsimp only at hSw); go_simp; (try with_reducible rfl)
      try simp only [Act.put, List.setIfInBounds_toArray, List.set_cons_zero, List.set_cons_succ]
      refine Ord.wpAnyU_take (i := 1) (v := ?_) rfl (by kernel_rfl) (by kernel_rfl) (by kernel_rfl) (by kernel_rfl) (by kernel_rfl) (by kernel_rfl) (by kernel_rfl) (fun _ _ _ h => h) (Or.inl ⟨by rfl, ?_⟩) hHeld ?_
      rotate_left
      · intro w hSw; (try dsimp only at hSw); go_simp; (try with_reducible rfl)
      try simp only [Act.put, List.setIfInBounds_toArray, List.set_cons_zero, List.set_cons_succ]
      refine Ord.wpAnyU_take (i := 2) (v := ?_) rfl (by kernel_rfl) (by kernel_rfl) (by kernel_rfl) (by kernel_rfl) (by kernel_rfl) (by kernel_rfl) (by kernel_rfl) (fun _ _ _ h => h) (Or.inl ⟨by rfl, ?_⟩) hHeld ?_
      rotate_left
      · intro w hSw; (try dsimp only at hSw); go_simp; (try with_reducible rfl)
      try simp only [Act.put, List.setIfInBounds_toArray, List.set_cons_zero, List.set_cons_succ]
      refine Ord.wpAnyU_take (i := 5) (v := ?_) rfl (by kernel_rfl) (by kernel_rfl) (by kernel_rfl) (by kernel_rfl) (by kernel_rfl) (by kernel_rfl) (by kernel_rfl) (fun _ _ _ h => h) (Or.inl ⟨by rfl, ?_⟩) hHeld ?_
      rotate_left
      · intro w hSw; (try dsimp only at hSw); go_simp; (try with_reducible rfl)
      try simp only [Act.put, List.setIfInBounds_toArray, List.set_cons_zero, List.set_cons_succ]
      refine Ord.wpAnyU_take (i := 6) (v := ?_) rfl (by kernel_rfl) (by kernel_rfl) (by kernel_rfl) (by kernel_rfl) (by kernel_rfl) (by kernel_rfl) (by kernel_rfl) (fun _ _ _ h => h) (Or.inl ⟨by rfl, ?_⟩) hHeld ?_
      rotate_left
      · intro w hSw; (try dsimp only at hSw); go_simp; (try with_reducible rfl)
      try simp only [Act.put, List.setIfInBounds_toArray, List.set_cons_zero, List.set_cons_succ]
      refine Ord.wpAnyU_one (i := 3) (by kernel_rfl) rfl (fun K hK => ?_)
      go_simp
      go_wp2_with (go_at_call 67; (with_reducible refine (NX.out _ (below2 HWB.out HBx0.out)).mono ?_); rintro e w4 ⟨rfl, hb1⟩; have HBx1 := Lib.hid (below2 HBx0.out hb1))
      have hHeld := FL.out _ HBx1
      refine hK.out _ _ (fun _ => hHeld) ?_
      clear hK K
      try simp only [Act.put, List.setIfInBounds_toArray, List.set_cons_zero, List.set_cons_succ]
      refine Ord.wpAnyU_take (i := 4) (v := ?_) rfl (by kernel_rfl) (by kernel_rfl) (by kernel_rfl) (by kernel_rfl) (by kernel_rfl) (by kernel_rfl) (by kernel_rfl) (fun _ _ _ h => h) (Or.inl ⟨by rfl, ?_⟩) hHeld ?_
      rotate_left
      · intro w hSw; (try dsimp only at hSw); go_simp; (try with_reducible rfl)
      try simp only [Act.put, List.setIfInBounds_toArray, List.set_cons_zero, List.set_cons_succ]
      refine Ord.wpAnyU_one (i := 7) (by kernel_rfl) rfl (fun K hK => ?_)
      go_simp
      go_wp2_with (go_at_call 67; (with_reducible refine (NY.out _ (below2 HWB.out HBx1.out)).mono ?_); rintro e w5 ⟨rfl, hb2⟩; have HBx2 := Lib.hid (below2 HBx1.out hb2))
      have hHeld := FL.out _ HBx2
      refine hK.out _ _ (fun _ => hHeld) ?_
      clear hK K
      try simp only [Act.put, List.setIfInBounds_toArray, List.set_cons_zero, List.set_cons_succ]
      refine Ord.wpAnyU_take (i := 8) (v := ?_) rfl (by kernel_rfl) (by kernel_rfl) (by kernel_rfl) (by kernel_rfl) (by kernel_rfl) (by kernel_rfl) (by kernel_rfl) (fun _ _ _ h => h) (Or.inl ⟨by rfl, ?_⟩) hHeld ?_
      rotate_left
      · intro w hSw; (try dsimp only at hSw); go_simp; (try with_reducible rfl)
      try simp only [Act.put, List.setIfInBounds_toArray, List.set_cons_zero, List.set_cons_succ]
      refine Ord.wpAnyU_one (i := 9) (by kernel_rfl) rfl (fun K hK => ?_)
      go_simp
      go_wp2
      have HBx3 := Lib.hid (below_al HBx2.out (Obj.cells #[Value.string (bs (itoa X) ++ ⟨#[120]⟩ ++ bs (itoa Y))] 9))
      have hHeld := FL.out _ HBx3
      refine hK.out _ _ (fun _ => hHeld) ?_
      clear hK K
      try simp only [Act.put, List.setIfInBounds_toArray, List.set_cons_zero, List.set_cons_succ]
      refine Ord.wpAnyU_one (i := 10) (by kernel_rfl) rfl (fun K hK => ?_)
      rw [if_pos (by rfl)]
      refine wp_append_lies _ (.tmp 12) (.tmp 21) 46 rfl w.heap.size 9 i0 _ 1 16 Tryz.underlying46 hii hz0 hz1 hz2 rfl (by decide) _ k _ rfl ((Own.own_below HOW.out HBx2.out).alloc _) _ 1 _ [Value.string (bs (itoa X) ++ ⟨#[120]⟩ ++ bs (itoa Y))] rfl rfl ?_ ?_ (by decide) (by unfold maxLen; omega) (by omega) ?_ _ rfl ?_
      · intro j u hj
        cases j with
        | zero => simp at hj; subst hj; exact Own.cell_new _ _ _
        | succ j => simp at hj
      · intro u hu; simp at hu; subst hu; rfl
      · have h1 := HWB.out.size; have h2 := HBx2.out.size; simp; omega
      intro g9 cap9 w9 hown9 hgrow9 _ _
      have hown9' : Hid (w9.ownsRow w.heap.size 9 1 (.slice (some ⟨g9, 0, none⟩) (k + 1) cap9) (k + 1) (strVals (stkR l (k + 1)))) := by
        show World.ownsRow _ _ _ _ _ _ _
        rw [RN.out, EE.out]
        simpa [strVals] using hown9
      have HB9 : Hid (Below w.heap.size w w9) := by
        have hb3 : Below w.heap.size w (w5.alloc (.cells #[.string (bs (itoa X) ++ ⟨#[120]⟩ ++ bs (itoa Y))] 9)) := below_al (below2 HWB.out HBx2.out) _
        exact hb3.grown hgrow9 hb3.size (Own.own_block HOW.out (Nat.le_refl _))
      refine hK.out _ _ (fun h => by cases h) ?_
      clear hK K
      try simp only [Act.put, List.setIfInBounds_toArray, List.set_cons_zero, List.set_cons_succ]
      refine Ord.wpAnyU_one (i := 11) (by kernel_rfl) rfl (fun K hK => ?_)
      go_simp
      refine hK.out _ _ (fun h => by cases h) ?_
      clear hK K
      try simp only [Act.put, List.setIfInBounds_toArray, List.set_cons_zero, List.set_cons_succ]
      refine Ord.wpAnyU_done (by kernel_rfl) ?_ _
      clear hown9 hgrow9
      go_wp2
      go_roundw
      case rel => exact ⟨k + 1, by omega, by go_num, hown9', HB9⟩
      case measure => simp [intOf]; omega
    · have d1 : decide ((k : Int) < (n : Int)) = false := decide_eq_false (by omega)
      have hlt1 : ¬ (k : Int) < (n : Int) := by omega
      have hkn : k = n := by omega
      have htk : l.take k = l := List.take_of_length_le (by rw [HN.out]; omega)
      have HO2 := HO.out
      have HL : Hid ((l.map stkT).length = k) := by show _ = _; rw [List.length_map, HN.out, hkn]
      have eR : stkR l k = rows (l.map stkT) := by unfold stkR; rw [htk]
      rw [eR, ← HL.out] at HO2
      have hjl := HS.out k
      rw [htk] at hjl
      have JN : Hid (Calls Tryz.prog 34 #[u3, .string ⟨#[44]⟩] wr fun e w' => e = .returned (.string (bs (listT l))) ∧ Below wr.heap.size wr w') := join_any (l.map stkT) 44 _ wr w.heap.size HO2 (by rw [HL.out]; omega) (by unfold listT at hjl; omega)
      clear HO2
      go_wp2_with (go_at_call 34; (with_reducible refine JN.out.mono ?_); rintro e w5 ⟨rfl, hb5⟩)
      go_ret
      exact ⟨rfl, below2 HB.out hb5⟩
end Asm
end Go.Proofs.YtlhalhilnkneeaaGreatDoor
end
section
set_option maxRecDepth 100000
namespace Go.Proofs.YtlhalhilnkneeaaGreatDoor
open Go.RowKit Go.Great Go.Sort
namespace Asm
open Go.Lib (decDigits itoa)
open Pen (bs)
open In (strVals Strs)
open Frm (rows)
open Rec (below2 below_al below_dN Stk Stks stkVals stkVals_append stkVals_length stks_of_own list_pair pair_new)
open Cmd (Gives Snum CmdIn fi fn nm names place nameOf chkV Cok Lies Stand stand_new load_cmd run_load_cmd chkV_01 fn_get fi_len getV place_nm)
set_option maxHeartbeats 8000000 in
theorem deskLine_any (c : CmdIn) (w : World) (hl : Lies w c) (hc : Cok c) (hE : Env w) : Calls Tryz.prog 33 #[.agg c.val] w fun e w' => e = .returned (.tuple #[.string (bs (lineV c).1), .int .i64 (lineV c).2]) ∧ Below w.heap.size w w' := by
  have HL := Lib.hid hl
  have HC := Lib.hid hc
  have HST := Lib.hid (stand_new (w := w) rfl c)
  have CK : Hid (∀ W, Below w.heap.size w W → Calls Tryz.prog 63 #[.agg c.val] W fun e w' => e = .returned (.int .i64 (chkV c)) ∧ Below W.heap.size W w') := fun W hb => Cmd.check_any c W (hE.below hb).tab.sp hc.few
  have CF : Hid (∀ W, Below w.heap.size w W → Calls Tryz.prog 65 #[.int .i64 c.kind] W (Gives (fn c.kind) W)) := fun W hb => Cmd.fields_any c.kind W (hE.below hb).tab.sp
  have CN : Hid (∀ W, Calls Tryz.prog 64 #[.int .i64 c.kind] W fun e w' => e = .returned (.string (nameOf c.kind)) ∧ Below W.heap.size W w') := fun W => Cmd.name_any c.kind W
  have CG : Hid (∀ s W, Calls Tryz.prog 66 #[.agg c.val, .string s] W fun e w' => e = .returned (.tuple #[.int .i64 (getV c s).1, .bool (getV c s).2]) ∧ Below W.heap.size W w') := fun s W => Cmd.get_any c s W
  have NA : Hid (∀ (n : Int), I64 n → ∀ (W : World), Below w.heap.size w W → Calls Tryz.prog 67 #[.int .i64 n] W fun e w' => e = .returned (.string (bs (itoa n))) ∧ Below W.heap.size W w') := fun n hn W hb => Rep.itoa_any n ⟨hn.1, hn.2⟩ W (hE.below hb).tab
  have CL : Hid (∀ (a : Option Addr) (k : Nat) (l : List Stk), l.length ≤ 100 → Snum l → ∀ W, Below w.heap.size w W → Stks W a l → Calls Tryz.prog 68 #[.slice a l.length k] W fun e w' => e = .returned (.string (bs (listT l))) ∧ Below W.heap.size W w') := fun a k l h1 h2 W hb h => deskList_any a k l l.length rfl h1 h2 W h (hE.below hb)
  clear hl hc hE
  rcases chkV_01 c with h0 | h1
  · have HV : Hid (lineV c = (lineT c, 0)) := by show _ = _; unfold lineV; rw [if_pos h0]
    rw [HV.out]
    rw [h0] at CK
    clear h0 HV
    go_enter Tryz.func33, Tryz.ntmps33
    go_upto_region 1 with fail
    apply wp_region_lit
    refine load_cmd rfl (.tmp 1) rfl w.heap.size rfl c HST.out ?_
    obtain ⟨m, hm⟩ : ∃ m, Hid ((fn c.kind).length = m) := ⟨_, rfl⟩
    have HFI : Hid ((fi c.kind).length = m) := by show _ = _; have := hm.out; unfold fn at this; rwa [List.length_map] at this
    have hm1 : m ≤ 11 := by rw [← HFI.out]; exact fi_len c.kind
    have HS0 : Hid (nameOf c.kind = bs (lineP c 0)) := by show _ = _; rw [lineP_zero]; exact (Lib.mk_data _).symm
    go_wp2_with (first
      | (go_at_call 63; (with_reducible refine (CK.out _ (below_al (Below.refl w.heap.size w) _)).mono ?_); rintro e w1 ⟨rfl, hb1⟩; have HB1 := Lib.hid hb1; clear hb1; have HS1 := Lib.hid (HST.out.below HB1.out); have HW1 := Lib.hid (below2 (below_al (Below.refl w.heap.size w) _) HB1.out); obtain ⟨b0, -, -⟩ := HS1.out.three)
      | (go_at_call 64; (with_reducible refine (CN.out _).mono ?_); rintro e w2 ⟨rfl, hb2⟩; rw [HS0.out]; have HB2 := Lib.hid hb2; clear hb2; have HS2 := Lib.hid (HS1.out.below HB2.out); have HW2 := Lib.hid (below2 HW1.out HB2.out); obtain ⟨p0, -, -⟩ := HS2.out.three)
      | (go_at_call 65; (with_reducible refine (CF.out _ HW2.out).mono ?_); rintro e w3 ⟨a3, k3, rfl, HF3, HB3, -⟩; rw [hm.out]; have HS3 := Lib.hid (HS2.out.below HB3.out); have HW3 := Lib.hid (below2 HW2.out HB3.out)))
    go_loopw [5, 22] (fun s i wr => ∃ k : Nat, k ≤ m ∧ i = .int .i64 k ∧ s = .string (bs (lineP c k)) ∧ Hid (Below w3.heap.size w3 wr)) (fun _ i _ => m - (intOf i).toNat)
    case atStart => exact ⟨0, by omega, rfl, rfl, Below.refl _ _⟩
    case round =>
      obtain ⟨k, hk, rfl, rfl, hb⟩ := hrel
      by_cases hlt : k < m
      · obtain ⟨b2, off2, rfl, hbl2, hc2⟩ := (Strs.below HF3.out hb.out) k (by rw [hm.out]; exact hlt)
        obtain ⟨e1, hi19⟩ := fn_get c.kind k (by rw [HFI.out]; exact hlt)
        rw [e1] at hc2
        have hI0 := HC.out.num _ hi19
        have hI : I64 (c.num ((fi c.kind).getD k 0)) := ⟨hI0.1, hI0.2⟩
        have HG : Hid (getV c (nm ((fi c.kind).getD k 0)) = (c.num ((fi c.kind).getD k 0), true)) := by show _ = _; unfold getV; rw [place_nm hi19]
        have HX := Lib.hid (lineP_next c k (by rw [HFI.out]; exact hlt))
        have hlen := lineP_len c HC.out k
        have hnl := (names_bytes _ hi19).2.2.1
        clear e1 hI0
        have hlt1 : (k : Int) < (m : Int) := by omega
        have d1 : decide ((k : Int) < (m : Int)) = true := decide_eq_true hlt1
        have hk0 : (0 : Int) ≤ k := by omega
        have HNM : Hid (nm ((fi c.kind).getD k 0) = bs (names.getD ((fi c.kind).getD k 0) [])) := rfl
        generalize (fi c.kind).getD k 0 = I at *
        generalize names.getD I [] = NMS at *
        generalize lineP c k = S at *
        rw [HNM.out] at hc2 HG
        go_upto_region 8 with fail
        apply wp_region_lit
        refine load_cmd rfl (.tmp 1) rfl w.heap.size rfl c (HS3.out.below hb.out) ?_
        by_cases hz : c.num I = 0
        · have HE : Hid (lineP c (k + 1) = S) := by show _ = _; rw [HX.out, if_pos hz]
          have gz : (c.num I == 0) = true := by simpa using hz
          go_wp2_with (go_at_call 66; (with_reducible refine (CG.out (bs NMS) _).mono ?_); rintro e w4 ⟨rfl, hb4⟩; rw [HG.out]; have HB4w : Hid (Below w3.heap.size w3 w4) := below2 hb.out hb4; clear hb4)
          go_roundw
          case rel => exact ⟨k + 1, by omega, by go_num, by rw [HE.out], HB4w⟩
          case measure => simp [intOf]; omega
        · have HE : Hid (lineP c (k + 1) = S ++ 32 :: (NMS ++ 61 :: itoa (c.num I))) := by show _ = _; rw [HX.out, if_neg hz]
          have gz : (c.num I == 0) = false := by simpa using hz
          have hx := itoa_len hI
          have NX := Lib.hid (NA.out _ hI)
          clear hz HX
          generalize c.num I = X at *
          have z1 : ¬ 9223372036854775807 < 1 + (bs NMS).size := by rw [Pen.bs_size]; omega
          have z2 : ¬ 9223372036854775807 < 1 + (bs NMS).size + 1 := by rw [Pen.bs_size]; omega
          have z3 : ¬ 9223372036854775807 < 1 + (bs NMS).size + 1 + (bs (itoa X)).size := by rw [Pen.bs_size, Pen.bs_size]; omega
          have z4 : ¬ 9223372036854775807 < (bs S).size + (1 + (bs NMS).size + 1 + (bs (itoa X)).size) := by rw [Pen.bs_size, Pen.bs_size, Pen.bs_size]; omega
          go_wp2_with (first
            | (go_at_call 66; (with_reducible refine (CG.out (bs NMS) _).mono ?_); rintro e w4 ⟨rfl, hb4⟩; rw [HG.out]; have HB4w : Hid (Below w3.heap.size w3 w4) := below2 hb.out hb4; clear hb4)
            | (go_at_call 67; (with_reducible refine (NX.out _ (below2 HW3.out HB4w.out)).mono ?_); rintro e w5 ⟨rfl, hb5⟩))
          have EE : Hid (bs S ++ (⟨#[32]⟩ ++ bs NMS ++ ⟨#[61]⟩ ++ bs (itoa X)) = bs (lineP c (k + 1))) := by
            show _ = _
            rw [HE.out, show (⟨#[32]⟩ : ByteArray) = bs [32] from rfl, show (⟨#[61]⟩ : ByteArray) = bs [61] from rfl, bs_add, bs_add, bs_add, bs_add]
            simp
          have HBB : Hid (Below w3.heap.size w3 w5) := below2 HB4w.out hb5
          clear z1 z2 z3 z4 hb5
          go_wp2
          go_roundw
          case rel => exact ⟨k + 1, by omega, by go_num, congrArg Value.string EE.out, HBB⟩
          case measure => simp [intOf]; omega
      · have hke : k = m := by omega
        have n1 : ¬ (k : Int) < (m : Int) := by omega
        have d1 : decide ((k : Int) < (m : Int)) = false := decide_eq_false n1
        subst hke
        have HWr := Lib.hid (HW3.out.trans (hb.out.mono HW3.out.size))
        have HSr := Lib.hid (HS3.out.below hb.out)
        have HLr := Lib.hid (HL.out.below HWr.out)
        have hbw : w.heap.size < wr.heap.size := World.rowIs.lt HSr.out
        obtain ⟨b0', b20, b21⟩ := HSr.out.three
        have LE := Lib.hid (lineT_eq c)
        rw [HFI.out] at LE
        have hlen := lineP_len c HC.out k
        have hg100 := HC.out.few.1
        have hw100 := HC.out.few.2
        have hgl := listT_small c.gives HC.out.gives hg100 c.gives.length
        have hwl := listT_small c.wants HC.out.wants hw100 c.wants.length
        rw [List.take_length] at hgl hwl
        generalize lineP c k = S at *
        obtain ⟨G, hG⟩ : ∃ G, Hid ((if c.gives = [] then ([] : List UInt8) else 32 :: (givesN ++ 61 :: listT c.gives)) = G) := ⟨_, rfl⟩
        obtain ⟨H, hH⟩ : ∃ H, Hid ((if c.wants = [] then ([] : List UInt8) else 32 :: (wantsN ++ 61 :: listT c.wants)) = H) := ⟨_, rfl⟩
        rw [hG.out, hH.out] at LE
        have hGl : G.length ≤ 4300 := by rw [← hG.out]; split <;> simp [givesN]; omega
        have GL := Lib.hid (CL.out c.ga c.gc c.gives hg100 HC.out.gives)
        have GW := Lib.hid (CL.out c.wa c.wc c.wants hw100 HC.out.wants)
        go_upto_if 46 with (fail)
        go_cut [5] (fun v wx => v = .string (bs (S ++ G)) ∧ Hid (Below wr.heap.size wr wx))
        case first =>
          by_cases hg : c.gives = []
          · have g0 : ¬ (0 : Int) < (c.gives.length : Int) := by rw [hg]; decide
            have E0 : Hid (bs S = bs (S ++ G)) := by show _ = _; rw [← hG.out, if_pos hg, List.append_nil]
            clear hg
            go_wp2
            go_meet
            case rel => exact ⟨congrArg Value.string E0.out, Below.refl _ _⟩
          · have g0 : (0 : Int) < (c.gives.length : Int) := by
              have : c.gives.length ≠ 0 := fun e => hg (List.eq_nil_of_length_eq_zero e)
              omega
            have E0 : Hid (bs S ++ (⟨#[32, 103, 105, 118, 101, 115, 61]⟩ ++ bs (listT c.gives)) = bs (S ++ G)) := by
              show _ = _
              rw [← hG.out, if_neg hg, show (⟨#[32, 103, 105, 118, 101, 115, 61]⟩ : ByteArray) = bs [32, 103, 105, 118, 101, 115, 61] from rfl, bs_add, bs_add]
              simp [givesN]
            have z1 : ¬ 9223372036854775807 < 7 + (bs (listT c.gives)).size := by rw [Pen.bs_size]; omega
            have z2 : ¬ 9223372036854775807 < (bs S).size + (7 + (bs (listT c.gives)).size) := by rw [Pen.bs_size, Pen.bs_size]; omega
            clear hg
            go_wp2_with (go_at_call 68; (with_reducible refine (GL.out _ HWr.out HLr.out.g).mono ?_); rintro e w5 ⟨rfl, hb5⟩; have HB5 := Lib.hid hb5; clear hb5)
            go_meet
            case rel => exact ⟨congrArg Value.string E0.out, HB5⟩
        case rest =>
          obtain ⟨rfl, HBc⟩ := hcut
          have HLc := Lib.hid (HLr.out.below HBc.out)
          have HWc := Lib.hid (below2 HWr.out HBc.out)
          have HSc := Lib.hid (HSr.out.below HBc.out)
          have hbc : w.heap.size < wc.heap.size := World.rowIs.lt HSc.out
          obtain ⟨-, -, c21⟩ := HSc.out.three
          clear b0' b20 b21
          obtain ⟨SG, hSG⟩ : ∃ SG, Hid (S ++ G = SG) := ⟨_, rfl⟩
          have hSGl : SG.length ≤ 4700 := by rw [← hSG.out, List.length_append]; omega
          rw [hSG.out] at LE ⊢
          go_upto_if 56 with (fail)
          go_cut [5] (fun v wx => v = .string (bs (SG ++ H)) ∧ Hid (Below wc.heap.size wc wx))
          case first =>
            by_cases hg : c.wants = []
            · have g0 : ¬ (0 : Int) < (c.wants.length : Int) := by rw [hg]; decide
              have E0 : Hid (bs SG = bs (SG ++ H)) := by show _ = _; rw [← hH.out, if_pos hg, List.append_nil]
              clear hg
              go_wp2
              go_meet
              case rel => exact ⟨congrArg Value.string E0.out, Below.refl _ _⟩
            · have g0 : (0 : Int) < (c.wants.length : Int) := by
                have : c.wants.length ≠ 0 := fun e => hg (List.eq_nil_of_length_eq_zero e)
                omega
              have E0 : Hid (bs SG ++ (⟨#[32, 119, 97, 110, 116, 115, 61]⟩ ++ bs (listT c.wants)) = bs (SG ++ H)) := by
                show _ = _
                rw [← hH.out, if_neg hg, show (⟨#[32, 119, 97, 110, 116, 115, 61]⟩ : ByteArray) = bs [32, 119, 97, 110, 116, 115, 61] from rfl, bs_add, bs_add]
                simp [wantsN]
              have z1 : ¬ 9223372036854775807 < 7 + (bs (listT c.wants)).size := by rw [Pen.bs_size]; omega
              have z2 : ¬ 9223372036854775807 < (bs SG).size + (7 + (bs (listT c.wants)).size) := by rw [Pen.bs_size, Pen.bs_size]; omega
              clear hg
              go_wp2_with (go_at_call 68; (with_reducible refine (GW.out _ HWc.out HLc.out.w).mono ?_); rintro e w5 ⟨rfl, hb5⟩; have HB5 := Lib.hid hb5; clear hb5)
              go_meet
              case rel => exact ⟨congrArg Value.string E0.out, HB5⟩
          case rest =>
            obtain ⟨rfl, HBd⟩ := hcut
            rename_i wd
            go_wp2
            go_ret2
            exact ⟨by rw [LE.out]; rfl, below2 (below2 HWr.out HBc.out) HBd.out⟩
  · have HV : Hid (lineV c = ([], 1)) := by show _ = _; unfold lineV; rw [if_neg (by rw [h1]; decide)]
    rw [HV.out]
    rw [h1] at CK
    clear h1 HV
    go_enter Tryz.func33, Tryz.ntmps33
    go_upto_region 1 with fail
    apply wp_region_lit
    refine load_cmd rfl (.tmp 1) rfl w.heap.size rfl c HST.out ?_
    go_wp2_with (go_at_call 63; (with_reducible refine (CK.out _ (below_al (Below.refl w.heap.size w) _)).mono ?_); rintro e w1 ⟨rfl, hb1⟩; have HB1 := Lib.hid hb1; clear hb1)
    all_goals go_ret2
    all_goals exact ⟨rfl, below2 (below_al (Below.refl w.heap.size w) _) HB1.out⟩
end Asm
end Go.Proofs.YtlhalhilnkneeaaGreatDoor
end
section
set_option maxRecDepth 100000
namespace Go.Proofs.YtlhalhilnkneeaaGreatDoor
open Go.RowKit Go.Great Go.Sort
namespace Asm
open Go.Lib (decDigits itoa)
open Pen (bs)
open In (strVals Strs)
open Frm (rows)
open Rec (below2 below_al below_dN)
open Cmd (Gives)
theorem words_snoc (n : Nat) : ∀ l : List UInt8, l.length ≤ n → wordsL (l ++ [32]) = wordsL l := by
  induction n with
  | zero =>
    intro l h
    have e : l = [] := List.eq_nil_of_length_eq_zero (by omega)
    subst e
    rfl
  | succ n ih =>
    intro l h
    by_cases hm : 32 ∈ l
    · obtain ⟨p, r, e1, e2, -⟩ := splitL_front 32 l hm
      subst e1
      rw [List.append_assoc, List.cons_append, words_front p _ e2, words_front p _ e2, ih r (by simp at h; omega)]
    · rw [show l ++ [32] = l ++ 32 :: [] from rfl, words_front l [] hm, words_plain l hm]
      simp [wordsL, splitL]
/-- Where the desk's loop over runes stands: what words it has, and where the next may begin. -/
structure WS (L : List UInt8) (D : List (List UInt8)) (fr pos : Nat) : Prop where
  le : fr ≤ pos
  top : pos ≤ L.length
  len : D.length ≤ fr
  words : D ++ wordsL (L.drop fr) = wordsL L
  no : ∀ j, fr ≤ j → j < pos → ∀ c, L[j]? = some c → c ≠ 32
theorem WS.begin (L : List UInt8) : WS L [] 0 0 := ⟨Nat.le_refl _, Nat.zero_le _, Nat.le_refl _, rfl, fun j _ h => absurd h (Nat.not_lt_zero _)⟩
theorem WS.piece {L : List UInt8} {D : List (List UInt8)} {fr pos : Nat} (h : WS L D fr pos) (hp : L[pos]? = some 32) : 32 ∉ (L.drop fr).take (pos - fr) ∧ L.drop fr = (L.drop fr).take (pos - fr) ++ 32 :: L.drop (pos + 1) := by
  have hlt : pos < L.length := (List.getElem?_eq_some_iff.1 hp).1
  refine ⟨fun hm => ?_, ?_⟩
  · obtain ⟨j, hj⟩ := List.mem_iff_getElem?.1 hm
    rw [List.getElem?_take] at hj
    split at hj
    · rename_i hlt2
      rw [List.getElem?_drop] at hj
      exact h.no (fr + j) (by omega) (by omega) _ hj rfl
    · cases hj
  · have h1 := List.take_append_drop (pos - fr) (L.drop fr)
    rw [List.drop_drop, show fr + (pos - fr) = pos from by have := h.le; omega] at h1
    have h2 : L.drop pos = 32 :: L.drop (pos + 1) := by
      rw [List.drop_eq_getElem_cons hlt]
      rw [List.getElem?_eq_getElem hlt] at hp
      rw [Option.some.inj hp]
    rw [h2] at h1
    exact h1.symm
theorem WS.stay {L : List UInt8} {D : List (List UInt8)} {fr pos q : Nat} (h : WS L D fr pos) (hq : pos ≤ q) (ht : q ≤ L.length) (hn : ∀ j, pos ≤ j → j < q → ∀ c, L[j]? = some c → c ≠ 32) : WS L D fr q :=
  ⟨Nat.le_trans h.le hq, ht, h.len, h.words, fun j h1 h2 c hc => by
    by_cases hj : j < pos
    · exact h.no j h1 hj c hc
    · exact hn j (by omega) h2 c hc⟩
theorem WS.word {L : List UInt8} {D : List (List UInt8)} {fr pos : Nat} (h : WS L D fr pos) (hp : L[pos]? = some 32) (hlt : fr < pos) : WS L (D ++ [(L.drop fr).take (pos - fr)]) (pos + 1) (pos + 1) := by
  obtain ⟨h1, h2⟩ := h.piece hp
  have hL : pos < L.length := (List.getElem?_eq_some_iff.1 hp).1
  refine ⟨Nat.le_refl _, hL, ?_, ?_, fun j a b => by omega⟩
  · have := h.len
    rw [List.length_append, List.length_singleton]; omega
  · rw [← h.words]
    conv => rhs; rw [h2, words_front _ _ h1]
    rw [if_neg (by
      intro e
      have := congrArg List.length e
      rw [List.length_take, List.length_drop, List.length_nil] at this
      omega), List.append_assoc]
theorem WS.blank {L : List UInt8} {D : List (List UInt8)} {fr pos : Nat} (h : WS L D fr pos) (hp : L[pos]? = some 32) (hlt : ¬ fr < pos) : WS L D (pos + 1) (pos + 1) := by
  obtain ⟨h1, h2⟩ := h.piece hp
  have hL : pos < L.length := (List.getElem?_eq_some_iff.1 hp).1
  refine ⟨Nat.le_refl _, hL, by have := h.len; have := h.le; omega, ?_, fun j a b => by omega⟩
  rw [← h.words]
  conv => rhs; rw [h2, words_front _ _ h1]
  rw [if_pos (by
    apply List.eq_nil_of_length_eq_zero
    rw [List.length_take]
    omega), List.nil_append]
theorem WS.done {l : List UInt8} {D : List (List UInt8)} {fr pos : Nat} (h : WS (l ++ [32]) D fr pos) (he : ¬ pos < (l ++ [32]).length) : D = wordsL l := by
  have hp : pos = l.length + 1 := by
    have := h.top
    simp at this he
    omega
  have hf : fr = l.length + 1 := by
    by_cases hlt : fr < l.length + 1
    · exact absurd rfl (h.no l.length (by omega) (by omega) 32 (by simp))
    · have := h.le; omega
  have := h.words
  rw [hf, words_snoc _ l (Nat.le_refl _), List.drop_of_length_le (by simp)] at this
  rw [← this]
  simp [wordsL, splitL]
end Asm
end Go.Proofs.YtlhalhilnkneeaaGreatDoor
end
section
set_option maxRecDepth 100000
namespace Go.Proofs.YtlhalhilnkneeaaGreatDoor
open Go.RowKit Go.Great Go.Sort
namespace Asm
open Go.Lib (decDigits itoa)
open Pen (bs)
open In (strVals Strs)
open Frm (rows)
open Rec (below2 below_al below_dN)
open Cmd (Gives)
theorem iter_pos {w : World} {k : Nat} {s : ByteArray} {p : Nat} (h : w.heap[k]? = some (.stringIter s p)) : w.iterPos k = p := by simp [World.iterPos, h]
theorem own_iterAt {w : World} {base k pos : Nat} {e : TypeId} {v : Value} {n : Nat} {xs : List Value} (h : w.ownsRow base e 1 v n xs) (hk : k < base) (s : ByteArray) : (w.iterAt k s pos).ownsRow base e 1 v n xs := by
  obtain ⟨h1, h2⟩ := h
  refine ⟨h1, ?_⟩
  rcases h2 with h2 | ⟨g, cap, cur, hv, hg, hc, h3⟩
  · exact .inl h2
  · exact .inr ⟨g, cap, cur, hv, hg, (Lib.iterAt_other w k g s pos (by omega)).trans hc, h3⟩
theorem get_bs (L : List UInt8) (j : Nat) (c : UInt8) (h : L[j]? = some c) : (bs L).get! j = c := by
  obtain ⟨hj, h2⟩ := List.getElem?_eq_some_iff.1 h
  show L.toArray[j]! = c
  rw [getElem!_pos L.toArray j (by simpa using hj)]
  simpa using h2
theorem ext_bs (l : List UInt8) (a b : Nat) : (bs l).extract a b = bs ((l.drop a).take (b - a)) := by
  apply bs_of
  rw [ByteArray.data_extract, Array.toList_extract]
  rfl
theorem cut_bs (l : List UInt8) (a b : Nat) (hb : b ≤ l.length) : ((l ++ [32]).drop a).take (b - a) = (l.drop a).take (b - a) := by
  by_cases h : a ≤ l.length
  · rw [List.drop_append_of_le_length h, List.take_append_of_le_length (by rw [List.length_drop]; omega)]
  · rw [show b - a = 0 from by omega]
    simp
/-- A row of texts of one's own is given back. -/
def GivesO (F : List ByteArray) (w : World) (e : Ending) (w' : World) : Prop := ∃ v, e = .returned v ∧ Hid (w'.ownsRow w.heap.size 9 1 v F.length (strVals F)) ∧ Hid (Below w.heap.size w w')
set_option maxHeartbeats 4000000 in
theorem deskWords_own (l : List UInt8) (hl : l.length ≤ 1000000) (w : World) : Calls Tryz.prog 50 #[.string (bs l)] w (GivesO (rows (wordsL l)) w) := by
  obtain ⟨i0, hi, hz0, hz1, hz2⟩ := info_parts Frm.sinfo
  obtain ⟨L, hL⟩ : ∃ L, Hid (l ++ [32] = L) := ⟨_, Lib.hid rfl⟩
  have hLs : (bs L).size = l.length + 1 := by rw [Pen.bs_size, ← hL.out]; simp
  have e32 : bs l ++ (⟨#[32]⟩ : ByteArray) = bs L := by rw [show (⟨#[32]⟩ : ByteArray) = bs [32] from rfl, bs_add, hL.out]
  have z1 : ¬ 9223372036854775807 < (bs l).size + 1 := by rw [Pen.bs_size]; omega
  go_enter Tryz.func50, Tryz.ntmps50
  go_wp2
  clear e32 z1
  go_loopw [3, 4] (fun v3 v4 wr => ∃ (pos fr : Nat) (D : List (List UInt8)), v4 = .int .i64 (fr : Int) ∧ Hid (WS L D fr pos) ∧ wr.heap[w.heap.size]? = some (.stringIter (bs L) pos) ∧ Hid (wr.ownsRow (w.heap.size + 1) 9 1 v3 D.length (strVals (rows D))) ∧ Hid (Below w.heap.size w wr)) (fun _ _ wr => (bs L).size - wr.iterPos w.heap.size)
  case atStart => exact ⟨0, 0, [], rfl, WS.begin L, World.iter_heap w (bs L) 0, World.ownsRow_nil _ _ _ _, (Below.refl _ _).alloc (Nat.le_refl _) _⟩
  case round =>
    obtain ⟨pos, fr, D, rfl, HW, hit, HO, HB⟩ := hrel
    have hpos0 := iter_pos hit
    by_cases hp : pos < (bs L).size
    · have hnx : ∀ ty, (Instr.next (.pointer (some ⟨w.heap.size, 0, none⟩)) true ty).run Tryz.prog wr = _ := fun ty => Lib.run_next_any_at wr w.heap.size (bs L) pos ty hit hp
      have hpL : pos < L.length := by rw [← Pen.bs_size]; exact hp
      obtain ⟨hd1, hd2, hd3, hd4⟩ := dec_blank (bs L) pos hp
      obtain ⟨c, hc⟩ : ∃ c, L[pos]? = some c := ⟨L[pos], List.getElem?_eq_getElem hpL⟩
      rw [get_bs L pos c hc] at hd3
      have HDA : Hid (c = 32 → (Utf8.decode (bs L) pos).2 = 1) := fun e => by
        have h2 : (bs L)[pos]'hp = 32 := by
          have h3 := List.getElem?_eq_some_iff.1 hc
          have h4 : (bs L)[pos]'hp = L[pos]'hpL := rfl
          rw [h4, h3.2, e]
        rw [decode_ascii (bs L) pos hp (by rw [h2]; decide)]
      have HNB : Hid (c ≠ 32 → ∀ j, pos ≤ j → j < pos + (Utf8.decode (bs L) pos).2 → ∀ x, L[j]? = some x → x ≠ 32) := fun hne j a b x hx e => by
        subst e
        by_cases hj : j = pos
        · subst hj
          rw [hc] at hx
          exact hne (Option.some.inj hx)
        · exact hd4 j (by omega) b (by rw [get_bs L j 32 hx]; rfl)
      rw [Pen.bs_size] at hd2
      clear hd4
      generalize (Utf8.decode (bs L) pos).2 = wd at *
      generalize (Utf8.decode (bs L) pos).1 = R at *
      have hit2 := Lib.iterAt_heap wr w.heap.size (bs L) pos (pos + wd) hit
      have hbw2 := Lib.below_iterAt HB.out (k := w.heap.size) (Nat.le_refl _) (bs L) (pos + wd)
      have HO2 := Lib.hid (own_iterAt HO.out (k := w.heap.size) (pos := pos + wd) (Nat.lt_succ_self _) (bs L))
      obtain ⟨W1, hW1⟩ : ∃ W1, W1 = wr.iterAt w.heap.size (bs L) (pos + wd) := ⟨_, rfl⟩
      rw [← hW1] at hnx hit2 hbw2 HO2
      have hBlt : w.heap.size < W1.heap.size := (Array.getElem?_eq_some_iff.1 hit2).1
      have HB2 := Lib.hid hbw2
      clear hW1 hit HO hbw2
      by_cases h32 : c = 32
      · have hwd := HDA.out h32
        subst h32
        subst hwd
        have hR : R = 32 := hd3.2 rfl
        subst hR
        by_cases hlt : fr < pos
        · have g1 : (fr : Int) < (pos : Int) := by omega
          have HWN := Lib.hid (HW.out.word hc hlt)
          have hpl : pos ≤ l.length := by rw [← hL.out, List.length_append] at hpL; simp at hpL; omega
          have hsl : (bs l).size = l.length := Pen.bs_size l
          have q1 : (pos : Int) ≤ ((bs l).size : Int) := by omega
          have q2 : (fr : Int) ≤ (pos : Int) := by omega
          have q3 : pos ≤ (bs l).size := by omega
          have q4 : fr ≤ pos := by omega
          have EX : (bs l).extract fr pos = bs ((L.drop fr).take (pos - fr)) := by
            rw [ext_bs, ← hL.out, cut_bs l fr pos hpl]
          have hlen := HW.out.len
          go_wp2_with (at_builtin; refine Own.list_one rfl (.tmp 19) (.tmp 24) 46 rfl (w.heap.size + 1) 9 i0 _ 16 Tryz.underlying46 hi hz0 hz1 hz2 rfl _ _ _ rfl _ _ _ rfl (HO2.out.alloc _) (Own.cell_new _ _ _) rfl ?h1 ?h2 ?h3 ?_; (case h1 => unfold maxLen; omega); (case h2 => omega); (case h3 => simp; omega); intro v' w2 hown2 hgrow2)
          have hit3 : w2.heap[w.heap.size]? = some (.stringIter (bs L) (pos + 1)) := by
            rw [hgrow2.block w.heap.size (by simp; omega) (fun h => by have := (HO2.out.lt _ h.symm).1; omega), Below.heap_alloc _ _ _ hBlt]
            exact hit2
          have HB3 : Hid (Below w.heap.size w w2) := Below.grown (HB2.out.alloc (by omega) _) hgrow2 (by simp; omega) (fun j hj => by have := (HO2.out.lt _ hj).1; omega)
          have HO3 : Hid (w2.ownsRow (w.heap.size + 1) 9 1 v' (D ++ [(L.drop fr).take (pos - fr)]).length (strVals (rows (D ++ [(L.drop fr).take (pos - fr)])))) := by
            show World.ownsRow _ _ _ _ _ _ _
            simpa [strVals, rows, bs] using hown2
          clear hown2 hgrow2 EX
          go_roundw
          case rel => exact ⟨pos + 1, pos + 1, _, by go_num, HWN, hit3, HO3, HB3⟩
          case measure => rw [iter_pos hit3, hpos0]; omega
        · have g1 : ¬ (fr : Int) < (pos : Int) := by omega
          have HWN := Lib.hid (HW.out.blank hc hlt)
          go_wp2
          go_roundw
          case rel => exact ⟨pos + 1, pos + 1, D, by go_num, HWN, hit2, HO2, HB2⟩
          case measure => rw [iter_pos hit2, hpos0]; omega
      · have hR : R ≠ 32 := fun e => h32 (UInt8.toNat_inj.1 (by rw [hd3.1 e]; rfl))
        have hR1 : ((R : Int) == 32) = false := by
          rw [beq_eq_false_iff_ne]
          intro e
          exact hR (by omega)
        have HWN := Lib.hid (HW.out.stay (q := pos + wd) (by omega) hd2 (HNB.out h32))
        go_wp2
        go_roundw
        case rel => exact ⟨pos + wd, fr, D, rfl, HWN, hit2, HO2, HB2⟩
        case measure => rw [iter_pos hit2, hpos0]; omega
    · have hnx : ∀ ty, (Instr.next (.pointer (some ⟨w.heap.size, 0, none⟩)) true ty).run Tryz.prog wr = _ := fun ty => Lib.run_next_end_at wr w.heap.size (bs L) pos ty hit hp
      have hD := HW.out
      rw [← hL.out] at hD
      have hD2 := Lib.hid (hD.done (by rw [hL.out, ← Pen.bs_size]; exact hp))
      clear hD
      have hO3 : wr.ownsRow w.heap.size 9 1 u3 (rows (wordsL l)).length (strVals (rows (wordsL l))) := by
        rw [← hD2.out, rows_len]
        exact own_base HO.out (Nat.le_succ _)
      go_wp2
      go_ret
      exact ⟨_, rfl, hO3, HB.out⟩
end Asm
end Go.Proofs.YtlhalhilnkneeaaGreatDoor
end
section
set_option maxRecDepth 100000
namespace Go.Proofs.YtlhalhilnkneeaaGreatDoor
open Go.RowKit Go.Great Go.Sort
namespace Asm
open Go.Lib (decDigits itoa)
open Pen (bs)
open In (strVals Strs)
open Frm (rows)
open Rec (below2 below_al below_dN Stk Stks stkVals)
open Cmd (Gives Snum CmdIn fi fn nm place chkV Cok Lies Stand Eqv zeroC kindOf load_cmd store_cmd ret_cmd setRow_cmd GivesC setV stand_new)
/-- A command with one field more, as it is given. -/
def GivesF (c : CmdIn) (o : Option CmdIn) (w : World) (e : Ending) (w' : World) : Prop := ∃ c', e = .returned (.tuple #[.agg c'.val, .bool o.isSome]) ∧ Hid (∀ d, o = some d → Eqv c' d) ∧ Hid (o.isSome = true → Lies w' c') ∧ Hid (Below w.heap.size w w') ∧ Hid (o.isSome = true → (∀ x, c'.ga = some x → c.ga = some x ∨ w.heap.size ≤ x.block) ∧ ∀ x, c'.wa = some x → c.wa = some x ∨ w.heap.size ≤ x.block)
/-- The command's box and the result's. -/
structure FS (w W : World) (cb rb : Nat) (c : CmdIn) : Prop where
  bel : Below w.heap.size w W
  box : Stand W cb c
  res : W.heap[rb]? = some (.cells zeroC.val 41 (0, 0))
  lies : Lies W c
  far : ∀ x, At c x → x.block ≠ cb ∧ x.block ≠ rb
  num : w.heap.size ≤ rb ∧ w.heap.size ≤ cb ∧ rb ≠ cb
theorem FS.below {w W V : World} {cb rb : Nat} {c : CmdIn} (h : FS w W cb rb c) (hb : Below W.heap.size W V) : FS w V cb rb c :=
  ⟨below2 h.bel hb, h.box.below hb, (hb.block rb (Array.getElem?_eq_some_iff.1 h.res).1).trans h.res, h.lies.below hb, h.far, h.num⟩
theorem FS.set {w W V : World} {cb rb : Nat} {c c2 : CmdIn} (h : FS w W cb rb c) (hl : Lies W c2) (hf : ∀ x, At c2 x → x.block ≠ cb ∧ x.block ≠ rb) (hs : Stand V cb c2) (hg : W.grownBy V (some cb)) : FS w V cb rb c2 := by
  obtain ⟨n1, n2, n3⟩ := h.num
  refine ⟨h.bel.grown hg h.bel.size (fun k hk => by cases hk; exact n2), hs, (hg.block rb (Array.getElem?_eq_some_iff.1 h.res).1 (fun e => n3 (Option.some.inj e))).trans h.res, ?_, hf, h.num⟩
  exact lies_keep hl fun x hx => ⟨hg.block x.block (lies_lt hl hx) (fun e => (hf x hx).1 (Option.some.inj e)), Nat.lt_of_lt_of_le (lies_lt hl hx) hg.size⟩
theorem FS.new {w : World} {c : CmdIn} (hl : Lies w c) : FS w ((w.alloc (.cells c.val 41)).alloc (.cells zeroC.val 41)) w.heap.size (w.heap.size + 1) c := by
  have hb : Below w.heap.size w ((w.alloc (.cells c.val 41)).alloc (.cells zeroC.val 41)) := below_al (below_al (Below.refl _ _) _) _
  refine ⟨hb, (stand_new (w := w) rfl c).below (below_al (Below.refl _ _) _), ?_, hl.below hb, fun x hx => ?_, by omega⟩
  · exact heap_alloc2_new w _ _
  · have := lies_lt hl hx
    omega
theorem FS.no {w W : World} {cb rb : Nat} {c c0 : CmdIn} {o : Option CmdIn} (h : FS w W cb rb c) (ho : o = none) : GivesF c0 o w (.returned (.tuple #[.agg c.val, .bool false])) (W.setRow rb c.val) := by
  subst ho
  exact ⟨c, rfl, (fun d hd => by cases hd), (fun hd => by cases hd), h.bel.grown (setRow_grown W rb _) h.bel.size (fun k hk => by cases hk; exact h.num.1), fun hd => by cases hd⟩
theorem FS.yes {w W : World} {cb rb : Nat} {c c0 d : CmdIn} {o : Option CmdIn} (h : FS w W cb rb c) (ho : o = some d) (he : Eqv c d) (hp : (∀ x, c.ga = some x → c0.ga = some x ∨ w.heap.size ≤ x.block) ∧ ∀ x, c.wa = some x → c0.wa = some x ∨ w.heap.size ≤ x.block) : GivesF c0 o w (.returned (.tuple #[.agg c.val, .bool true])) (W.setRow rb c.val) := by
  subst ho
  have hg := setRow_grown W rb c.val
  exact ⟨c, rfl, (fun d' hd => by cases hd; exact he), fun _ => lies_keep h.lies fun x hx => ⟨hg.block x.block (lies_lt h.lies hx) (fun e => (h.far x hx).2 (Option.some.inj e)), Nat.lt_of_lt_of_le (lies_lt h.lies hx) hg.size⟩, h.bel.grown hg h.bel.size (fun k hk => by cases hk; exact h.num.1), fun _ => hp⟩
theorem allO_len {α : Type} : ∀ (l : List (Option α)) (m : List α), allO l = some m → m.length = l.length
  | [], m, h => by
    rw [allO] at h
    cases h
    rfl
  | none :: l, m, h => by rw [allO] at h; cases h
  | some x :: l, m, h => by
    rw [allO] at h
    cases hr : allO l with
    | none => rw [hr] at h; cases h
    | some q =>
      rw [hr] at h
      cases h
      have := allO_len l q hr
      rw [List.length_cons, List.length_cons, this]
theorem stksL_len {t : List UInt8} {l : List Stk} (h : stksL t = some l) : l.length ≤ 8 := by
  unfold stksL at h
  split at h
  · cases h
  · rename_i h8
    have := allO_len _ _ h
    rw [List.length_map] at this
    omega
end Asm
end Go.Proofs.YtlhalhilnkneeaaGreatDoor
end
