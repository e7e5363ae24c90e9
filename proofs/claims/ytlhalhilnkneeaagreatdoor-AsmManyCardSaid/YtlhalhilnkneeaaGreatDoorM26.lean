/- Texts put together: AskL. -/
import Derived.Test.YtlhalhilnkneeaaGreatDoorM25
set_option linter.all false
section
set_option maxRecDepth 100000
namespace Go.Proofs.YtlhalhilnkneeaaGreatDoor
open Go.RowKit Go.Great Go.Sort
namespace Asm
open Go.Lib (decDigits itoa)
open Pen (bs)
open In (strVals Strs)
open Frm (rows put)
open Rec (below2 below_al below_dN Stk Stks stkVals)
open Cmd (Gives Snum CmdIn fi fn nm names place chkV Cok Lies Stand Eqv zeroC kindOf nameOf cmdB putV Clear takeV GivesT)
def L5 : List UInt8 := [116, 105, 99, 107, 32, 110, 61, 53]
def c5 : CmdIn := (bareK 20).set 9 5
theorem itoa5 : itoa 5 = [53] := by
  unfold itoa
  rw [if_neg (by decide), decDigits, dif_pos (by decide)]
  rfl
theorem field5 : fieldV (bareK 20) [110] [53] = some c5 := by
  have := fieldV_num (bareK 20) 9 (by decide +kernel) 5 (by decide)
  rw [itoa5] at this
  exact this
theorem parse5 : parseO L5 = some c5 := by
  have hw : wordsL L5 = [[116, 105, 99, 107], [110, 61, 53]] := by decide +kernel
  have hk : kindOf (bs [116, 105, 99, 107]) = 20 := by decide +kernel
  have hc : cutL 61 [110, 61, 53] = some ([110], [53]) := by decide +kernel
  unfold parseO
  rw [hw]
  dsimp only
  rw [if_neg (by decide), hk, if_neg (by decide), fieldsV, hc]
  dsimp only
  rw [if_neg (by decide), field5]
  rfl
theorem good5 : Good c5 := ⟨(parse_ok parse5).1, (parse_ok parse5).2, by decide +kernel⟩
theorem cmd5 : cmdB c5 = [20, 10] := by decide +kernel
theorem line5 : lineT c5 = L5 := by
  have h1 : fi c5.kind = [9] := by decide +kernel
  have h2 : fieldT c5 9 = [[110, 61, 53]] := by
    unfold fieldT
    rw [if_neg (by decide)]
    show [names.getD 9 [] ++ 61 :: itoa 5] = _
    rw [itoa5]
    rfl
  have h3 : fieldsT c5 [9] = [[110, 61, 53]] := by
    unfold fieldsT
    rw [List.flatMap_cons, List.flatMap_nil, h2]
    rfl
  have h4 : (nameOf c5.kind).data.toList = [116, 105, 99, 107] := by decide +kernel
  unfold lineT lineW
  rw [h1, h3, h4]
  rfl
theorem goods5 : ∀ c ∈ [c5], Good c := fun c hc => by rw [List.mem_singleton.1 hc]; exact good5
theorem pack5 : packT [c5] = [0, 0, 0, 2, 143, 162, 44, 180, 20, 10] := by
  show put (recB c5).data.toList ++ [] = _
  have : recB c5 = bs [20, 10] := by unfold recB; rw [cmd5]
  rw [this, List.append_nil]
  decide +kernel
theorem asm1 : asmV [35, 32, 111, 110, 101, 10, 116, 105, 99, 107, 32, 110, 61, 53, 10, 10] = ([0, 0, 0, 2, 143, 162, 44, 180, 20, 10], 0, 0) := by
  have hl : splitL 10 [35, 32, 111, 110, 101, 10, 116, 105, 99, 107, 32, 110, 61, 53, 10, 10] = [[35, 32, 111, 110, 101], L5, [], []] := by decide +kernel
  have hs : scriptV [35, 32, 111, 110, 101, 10, 116, 105, 99, 107, 32, 110, 61, 53, 10, 10] = ([c5], 0, 0) := by
    unfold scriptV
    rw [if_neg (by decide), hl, scriptTo, if_pos (by decide +kernel), scriptTo, if_neg (by decide +kernel), parse5]
    dsimp only
    rw [if_neg (by decide), scriptTo, if_pos (by decide +kernel), scriptTo, if_pos (by decide +kernel)]
    rfl
  have hp : packV [c5] = ([0, 0, 0, 2, 143, 162, 44, 180, 20, 10], 0) := by
    unfold packV
    rw [if_neg (by decide), if_neg (by rw [bad_of fun c hc => (goods5 c hc).chk]; decide), pack5]
  unfold asmV
  rw [hs]
  dsimp only
  rw [if_pos rfl, hp]
theorem dis1 : disV [0, 0, 0, 2, 143, 162, 44, 180, 20, 10] = ([116, 105, 99, 107, 32, 110, 61, 53, 10], 0) := by
  obtain ⟨m, h1, h2⟩ := unpack_pack [c5] goods5 (by decide)
  rw [pack5] at h1
  unfold disV
  rw [h1]
  dsimp only
  rw [if_pos rfl, (textV_eqv h2).1]
  unfold textV
  rw [if_neg (by decide), if_neg (by rw [bad_of fun c hc => (goods5 c hc).chk]; decide)]
  show (lineT c5 ++ [10] ++ [], (0 : Int)) = _
  rw [line5]
  rfl
theorem scr3 : (scriptV [116, 105, 99, 107, 32, 110, 61, 53, 10, 10, 116, 111, 99, 107]).2 = (3, 2) := by
  have hl : splitL 10 [116, 105, 99, 107, 32, 110, 61, 53, 10, 10, 116, 111, 99, 107] = [L5, [], [116, 111, 99, 107]] := by decide +kernel
  have hw : parseO [116, 111, 99, 107] = none := parse_none2 (k := [116, 111, 99, 107]) (r := []) (by decide +kernel) (by decide +kernel)
  unfold scriptV
  rw [if_neg (by decide), hl, scriptTo, if_neg (by decide +kernel), parse5]
  dsimp only
  rw [if_neg (by decide), scriptTo, if_pos (by decide +kernel), scriptTo, if_neg (by decide +kernel), hw]
  rfl
set_option maxHeartbeats 4000000 in
theorem awake_any (w : World) (hE : Env w) : Calls Tryz.prog 7 #[] w fun e w' => e = .returned (.bool true) ∧ Below w.heap.size w w' := by
  have CA : Hid (Calls Tryz.prog 10 #[.string ⟨#[35, 32, 111, 110, 101, 10, 116, 105, 99, 107, 32, 110, 61, 53, 10, 10]⟩] w fun e w' => e = .returned (.tuple #[.string ⟨#[0, 0, 0, 2, 143, 162, 44, 180, 20, 10]⟩, .int .i64 0, .int .i64 0]) ∧ Below w.heap.size w w') := by
    have := assemble_any [35, 32, 111, 110, 101, 10, 116, 105, 99, 107, 32, 110, 61, 53, 10, 10] (by decide) w hE
    rw [asm1] at this
    exact this
  have CD : Hid (∀ W, Below w.heap.size w W → Calls Tryz.prog 16 #[.string ⟨#[0, 0, 0, 2, 143, 162, 44, 180, 20, 10]⟩] W fun e w' => e = .returned (.tuple #[.string ⟨#[116, 105, 99, 107, 32, 110, 61, 53, 10]⟩, .int .i64 0]) ∧ Below W.heap.size W w') := fun W hb => by
    have := disassemble_any ⟨#[0, 0, 0, 2, 143, 162, 44, 180, 20, 10]⟩ (by decide) W (hE.below hb)
    rw [show (⟨#[0, 0, 0, 2, 143, 162, 44, 180, 20, 10]⟩ : ByteArray).data.toList = [0, 0, 0, 2, 143, 162, 44, 180, 20, 10] from rfl, dis1] at this
    exact this
  have CS : Hid (∀ W, Below w.heap.size w W → Calls Tryz.prog 8 #[.string ⟨#[116, 105, 99, 107, 32, 110, 61, 53, 10, 10, 116, 111, 99, 107]⟩] W fun e w' => ∃ v, e = .returned (.tuple #[v, .int .i64 3, .int .i64 2]) ∧ Hid (Below W.heap.size W w')) := fun W hb => (script_any [116, 105, 99, 107, 32, 110, 61, 53, 10, 10, 116, 111, 99, 107] (by decide) W (hE.below hb)).mono fun e w' ⟨v, l, h1, _, _, h4⟩ => ⟨v, by rw [h1, scr3], h4⟩
  have hx : (⟨#[0, 0, 0, 2, 143, 162, 44, 180, 20, 10]⟩ : ByteArray).extract 8 10 = ⟨#[20, 10]⟩ := by decide
  clear hE
  go_enter Tryz.func7, Tryz.ntmps7
  go_wp2_with (first
    | (go_at_call 10; (with_reducible refine CA.out.mono ?_); rintro e w1 ⟨rfl, hb1⟩; have HB1 := Lib.hid hb1; clear hb1)
    | (go_at_call 16; (with_reducible refine (CD.out _ HB1.out).mono ?_); rintro e w2 ⟨rfl, hb2⟩; have HB2 := Lib.hid (below2 HB1.out hb2); clear hb2)
    | (go_at_call 8; (with_reducible refine (CS.out _ HB2.out).mono ?_); rintro e w3 ⟨v3, rfl, hb3⟩; have HB3 := Lib.hid (below2 HB2.out hb3.out); clear hb3))
  go_ret
  exact ⟨rfl, HB3.out⟩
set_option maxHeartbeats 8000000 in
theorem texts_walk (t : List UInt8) (w : World) (hE : Env w) : Calls Tryz.prog 3 #[.string (bs t)] w fun e w' => e = .returned (.bool true) ∧ Below w.heap.size w w' := by
  have hz : (bs t).size = t.length := Pen.bs_size t
  have AW : Hid (∀ W, Below w.heap.size w W → Calls Tryz.prog 7 #[] W fun e w' => e = .returned (.bool true) ∧ Below W.heap.size W w') := fun W hb => awake_any W (hE.below hb)
  by_cases h1 : 2048 < t.length
  · have g1 : (2048 : Int) < ((bs t).size : Int) := by omega
    clear hE
    go_enter Tryz.func3, Tryz.ntmps3
    go_wp2_with (go_at_call 7; (with_reducible refine (AW.out _ (Below.refl _ _)).mono ?_); rintro e w1 ⟨rfl, hb1⟩)
    go_ret
    exact ⟨rfl, hb1⟩
  · have g1 : ¬ (2048 : Int) < ((bs t).size : Int) := by omega
    have ht : t.length ≤ 1000000 := by omega
    have gs : ∀ {W : World} {w' : World} {e : Ending}, GivesS (scriptV t) W e w' → ∃ a cap l, e = .returned (.tuple #[.slice a (List.length l) cap, .int .i64 (scriptV t).2.1, .int .i64 (scriptV t).2.2]) ∧ Hid (Cmds w' a l) ∧ Hid (EqvL l (scriptV t).1) ∧ Hid (Below W.heap.size W w') := fun ⟨v, l, h1, h2, h3, h4⟩ => by
      obtain ⟨a, cap, rfl, hc⟩ := h2.out.cmds
      exact ⟨a, cap, l, h1, hc, h3, h4⟩
    have C1 : Hid (Calls Tryz.prog 8 #[.string (bs t)] w fun e w' => ∃ a cap l, e = .returned (.tuple #[.slice a (List.length l) cap, .int .i64 (scriptV t).2.1, .int .i64 (scriptV t).2.2]) ∧ Hid (Cmds w' a l) ∧ Hid (EqvL l (scriptV t).1) ∧ Hid (Below w.heap.size w w')) := (script_any t ht w hE).mono fun _ _ h => gs h
    have C2 : Hid (∀ W, Calls Tryz.prog 9 #[.string (bs t)] W fun e w' => ∃ a cap l, e = .returned (.tuple #[.slice a (List.length l) cap, .int .i64 (scriptV t).2.1, .int .i64 (scriptV t).2.2]) ∧ Hid (Cmds w' a l) ∧ Hid (EqvL l (scriptV t).1) ∧ Hid (Below W.heap.size W w')) := fun W => (refScript_any (bs t) (by omega) W).mono fun _ _ h => gs h
    have C3 : Hid (∀ W, Below w.heap.size w W → Calls Tryz.prog 10 #[.string (bs t)] W fun e w' => e = .returned (.tuple #[.string (bs (asmV t).1), .int .i64 (asmV t).2.1, .int .i64 (asmV t).2.2]) ∧ Below W.heap.size W w') := fun W hb => assemble_any t ht W (hE.below hb)
    have C4 : Hid (∀ W, Calls Tryz.prog 11 #[.string (bs t)] W fun e w' => e = .returned (.tuple #[.string (bs (asmV t).1), .int .i64 (asmV t).2.1, .int .i64 (asmV t).2.2]) ∧ Below W.heap.size W w') := fun W => refAssemble_any t ht W
    obtain ⟨hok, hln⟩ := scriptV_ok t
    have C5 : Hid (∀ (a b : Option Addr) (c1 c2 : Nat) (l m : List CmdIn), EqvL l (scriptV t).1 → EqvL m (scriptV t).1 → ∀ W, Cmds W a l → Cmds W b m → Calls Tryz.prog 12 #[.slice a (List.length l) c1, .slice b (List.length m) c2] W fun e w' => e = .returned (.bool true) ∧ Below W.heap.size W w') := fun a b c1 c2 l m h1 h2 W h3 h4 => by
      have he := EqvL.trans h1 h2.symm
      have := sameL_any a b c1 c2 l m l.length rfl (by rw [h1.length]; omega) he (fun c hc => (Okl.eqv h1 hok c hc).1.few) W h3 h4
      rw [he.length] at this ⊢
      exact this
    generalize (scriptV t).2.1 = n1 at *
    generalize (scriptV t).2.2 = n2 at *
    generalize (scriptV t).1 = m0 at *
    generalize (asmV t).1 = q0 at *
    generalize (asmV t).2.1 = q1 at *
    generalize (asmV t).2.2 = q2 at *
    clear hE gs hok hln ht h1 hz
    go_enter Tryz.func3, Tryz.ntmps3
    go_wp2_with (first
      | (go_at_call 8; (with_reducible refine C1.out.mono ?_); rintro e w1 ⟨a1, k1, l1, rfl, HC1, HE1, HB1⟩)
      | (go_at_call 9; (with_reducible refine (C2.out _).mono ?_); rintro e w2 ⟨a2, k2, l2, rfl, HC2, HE2, HB2⟩; have HB12 := Lib.hid (below2 HB1.out HB2.out))
      | (go_at_call 10; (with_reducible refine (C3.out _ HB12.out).mono ?_); rintro e w3 ⟨rfl, hb3⟩; have HB3 := Lib.hid hb3; clear hb3)
      | (go_at_call 11; (with_reducible refine (C4.out _).mono ?_); rintro e w4 ⟨rfl, hb4⟩; have HB34 := Lib.hid (below2 HB3.out hb4); clear hb4; have HCA := Lib.hid (HC1.out.below (below2 HB2.out HB34.out)); have HCB := Lib.hid (HC2.out.below HB34.out))
      | (go_at_call 12; (with_reducible refine (C5.out _ _ _ _ _ _ HE1.out HE2.out _ HCA.out HCB.out).mono ?_); rintro e w5 ⟨rfl, hb5⟩; have HB5 := Lib.hid (below2 HB12.out (below2 HB34.out hb5)); clear hb5)
      | (go_at_call 7; (with_reducible refine (AW.out _ HB5.out).mono ?_); rintro e w6 ⟨rfl, hb6⟩; have HB6 := Lib.hid (below2 HB5.out hb6); clear hb6))
    go_ret
    exact ⟨rfl, HB6.out⟩
end Asm
end Go.Proofs.YtlhalhilnkneeaaGreatDoor
end
