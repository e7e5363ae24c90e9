/- What must come, whatever the arguments are. -/
import Derived.Test.YtbjlkeneeodghaaDoorCmdJ
import Derived.Test.YtbjlkeneeodghaaDoorCmdL
set_option linter.unusedSimpArgs false
set_option linter.unusedVariables false
namespace Go.Proofs.YtbjlkeneeodghaaDoor
open Go.RowKit Go.Great
namespace Cmd
open Pen (bs bs_append uintB intB I64 intS uintS doneS)
open In (Strs)
open Rec (below2 below_al below_dN Stk Stks stkVals stkVals_append stks_of_own)
theorem wpList_unguard {P : Program} {ops : Array Oper} {rest : List Oper} {o : Oper} {a : Act} {w : World} {Q : Exit → Act → World → Prop} (hw : Region.wanted o (yielded ops a.tmps) = true) (h : wpList P ops Q ({ o with guard := none } :: rest) a w) : wpList P ops Q (o :: rest) a w := by
  have h' : (if Region.wanted { o with guard := none } (yielded ops a.tmps) = true then Oper.wp P { o with guard := none } a w (wpList P ops Q rest) Q ∨ (Oper.asks P { o with guard := none } a w ∧ LetsOut Q) else wpList P ops Q rest (a.put o.dst undef) w) := h
  rw [if_pos (show Region.wanted { o with guard := none } (yielded ops a.tmps) = true from rfl)] at h'
  show (if Region.wanted o (yielded ops a.tmps) = true then Oper.wp P o a w (wpList P ops Q rest) Q ∨ (Oper.asks P o a w ∧ LetsOut Q) else wpList P ops Q rest (a.put o.dst undef) w)
  rw [if_pos hw]
  exact h'
theorem wpl_named {P : Program} {ops : Array Oper} {Q : Exit → Act → World → Prop} {l : List Oper} {a : Act} {w : World} (h : ∀ W, W = w → wpList P ops Q l a W) : wpList P ops Q l a w := h w rfl
theorem num_ext {a b : CmdIn} (ha : Clear a) (hb : Clear b) (h : ∀ i, i < 19 → a.num i = b.num i) : a.num = b.num := by
  funext i
  by_cases hi : i < 19
  · exact h i hi
  · rw [ha i (by omega), hb i (by omega)]
def cTick : CmdIn := ⟨20, fun i => if i = 9 then 5 else 0, [], none, 0, [], none, 0⟩
def cTock : CmdIn := ⟨20, fun i => if i = 9 then 5 else if i = 0 then 1 else 0, [], none, 0, [], none, 0⟩
def cDeliver : CmdIn := ⟨13, fun i => if i = 0 then 2 else if i = 3 then 3 else 0, [], none, 0, [], none, 0⟩
theorem cok_few (k : Int) (f : Nat → Int) (hk : I64 k) (hf : ∀ i, i < 19 → I64 (f i)) : Cok ⟨k, f, [], none, 0, [], none, 0⟩ :=
  ⟨hk, hf, fun i hi => absurd hi (Nat.not_lt_zero _), fun i hi => absurd hi (Nat.not_lt_zero _), Nat.zero_le _, Nat.zero_le _⟩
theorem lies_few (w : World) (k : Int) (f : Nat → Int) : Lies w ⟨k, f, [], none, 0, [], none, 0⟩ := ⟨fun i hi => absurd hi (Nat.not_lt_zero _), fun i hi => absurd hi (Nat.not_lt_zero _)⟩
theorem cTick_ok : Cok cTick := cok_few _ _ (by unfold I64; decide) (fun i _ => by split <;> (unfold I64; decide))
theorem cTock_ok : Cok cTock := cok_few _ _ (by unfold I64; decide) (fun i _ => by split; (unfold I64; decide); split <;> (unfold I64; decide))
theorem put_tick : putV cTick = ([20, 10], 0) := by decide +kernel
theorem put_tock : putV cTock = ([], 1) := by decide +kernel
theorem take_del : (takeV [13, 4, 6]).2 = 0 := by decide +kernel
theorem take_del_eqv : Eqv (takeV [13, 4, 6]).1 cDeliver := by
  obtain ⟨h1, h2, h3, h4⟩ := put_take _ take_del
  refine ⟨by decide +kernel, num_ext h2 (fun i hi => ?_) (by decide +kernel), by decide +kernel, by decide +kernel⟩
  show (if i = 0 then (2 : Int) else if i = 3 then 3 else 0) = 0
  rw [if_neg (by omega), if_neg (by omega)]
theorem Eqv.trans {a b c : CmdIn} (h : Eqv a b) (h2 : Eqv b c) : Eqv a c := ⟨h.kind.trans h2.kind, h.num.trans h2.num, h.gives.trans h2.gives, h.wants.trans h2.wants⟩
theorem Eqv.symm {a b : CmdIn} (h : Eqv a b) : Eqv b a := ⟨h.kind.symm, h.num.symm, h.gives.symm, h.wants.symm⟩
theorem place_id : place ⟨#[105, 100]⟩ = some 3 := by decide +kernel
theorem name_4 : nameOf 4 = ⟨#[102, 111, 117, 110, 100]⟩ := by decide +kernel
theorem kind_clock : kindOf ⟨#[99, 108, 111, 99, 107]⟩ = 25 := by decide +kernel
theorem fn_7 : fn 7 = [⟨#[119, 104, 111]⟩, ⟨#[97, 115]⟩, ⟨#[116, 111]⟩, ⟨#[110]⟩] := by decide +kernel
theorem str4 (w : World) : Strs (w.alloc (.cells #[.string ⟨#[119, 104, 111]⟩, .string ⟨#[97, 115]⟩, .string ⟨#[116, 111]⟩, .string ⟨#[110]⟩] 9)) (some ⟨w.heap.size, 0, none⟩) (fn 7) := by
  have h := strs_new (w := w) rfl (fn 7) 9
  rw [fn_7] at h ⊢
  exact h
set_option maxRecDepth 100000 in
set_option maxHeartbeats 1000000 in
theorem awake_any (w : World) (ht : Tab w) : Calls Tryd.prog 8 #[] w fun e w' => e = .returned (.bool true) ∧ Below w.heap.size w w' := by
  have HT := Lib.hid ht
  have CP1 : Hid (∀ W, Tab W → Calls Tryd.prog 9 #[.agg cTick.val] W fun e w' => e = .returned (.tuple #[.string (bs [20, 10]), .int .i64 0]) ∧ Below W.heap.size W w') := fun W h => by have := put_any cTick W h (lies_few _ _ _) cTick_ok; rw [put_tick] at this; exact this
  have CP2 : Hid (∀ W, Tab W → Calls Tryd.prog 9 #[.agg cTock.val] W fun e w' => e = .returned (.tuple #[.string (bs []), .int .i64 1]) ∧ Below W.heap.size W w') := fun W h => by have := put_any cTock W h (lies_few _ _ _) cTock_ok; rw [put_tock] at this; exact this
  have CT : Hid (∀ W, Tab W → Calls Tryd.prog 11 #[.string ⟨#[13, 4, 6]⟩] W fun e w' => ∃ c', e = .returned (.tuple #[.agg c'.val, .int .i64 0]) ∧ Hid (Eqv c' cDeliver) ∧ Hid (Lies w' c') ∧ Hid (Below W.heap.size W w')) := fun W h => by
    refine (take_any ⟨#[13, 4, 6]⟩ (by decide) W h).mono ?_
    rintro e w' ⟨c', e1, h2, h3, h4⟩
    exact ⟨c', by rw [e1]; show _ = Ending.returned (.tuple #[.agg c'.val, .int .i64 0]); rw [show (takeV (ByteArray.mk #[13, 4, 6]).data.toList).2 = 0 from take_del], Eqv.trans h2 take_del_eqv, h3, h4⟩
  have CG : Hid (∀ c', Eqv c' cDeliver → ∀ W, Calls Tryd.prog 16 #[.agg c'.val, .string ⟨#[105, 100]⟩] W fun e w' => e = .returned (.tuple #[.int .i64 3, .bool true]) ∧ Below W.heap.size W w') := fun c' h W => by
    have := get_any c' ⟨#[105, 100]⟩ W
    rw [show getV c' ⟨#[105, 100]⟩ = (3, true) from by unfold getV; rw [place_id]; show (c'.num 3, true) = _; rw [h.num]; rfl] at this
    exact this
  have CS : Hid (∀ c', Eqv c' cDeliver → ∀ W, Lies W c' → Calls Tryd.prog 13 #[.agg c'.val, .agg cDeliver.val] W fun e w' => e = .returned (.bool true) ∧ Below W.heap.size W w') := fun c' h W hl => sameC_any c' cDeliver W h hl (lies_few _ _ _) (by rw [h.gives, h.wants]; exact ⟨Nat.zero_le _, Nat.zero_le _⟩)
  have CN : Hid (∀ W, Calls Tryd.prog 23 #[.int .i64 4] W fun e w' => e = .returned (.string ⟨#[102, 111, 117, 110, 100]⟩) ∧ Below W.heap.size W w') := fun W => by have := name_any 4 W; rw [name_4] at this; exact this
  have CK : Hid (∀ W, Calls Tryd.prog 25 #[.string ⟨#[99, 108, 111, 99, 107]⟩] W fun e w' => e = .returned (.int .i64 25) ∧ Below W.heap.size W w') := fun W => by have := kind_any ⟨#[99, 108, 111, 99, 107]⟩ W; rw [kind_clock] at this; exact this
  have CF : Hid (∀ W, Tab W → Calls Tryd.prog 21 #[.int .i64 7] W (Gives (fn 7) W)) := fun W h => fields_any 7 W h
  have CW : Hid (∀ (a b : Option Addr) (c d : Nat) (w : World), Strs w a (fn 7) → Strs w b (fn 7) → Calls Tryd.prog 20 #[.slice a 4 c, .slice b 4 d] w fun e w' => e = .returned (.bool true) ∧ Below w.heap.size w w') := fun a b c d w ha hb => sameWords_any a b c d (fn 7) 4 (by rw [fn_7]; rfl) (by decide) w ha hb
  have HL7 : Hid ((fn 7).length = 4) := by show _ = _; rw [fn_7]; rfl
  clear ht
  go_enter Tryd.func8, Tryd.ntmps8
  go_upto_region 4 with (first
    | (go_at_call 9; (with_reducible refine (CP1.out _ HT.out).mono ?_); rintro e w1 ⟨rfl, HB1⟩)
    | (refine wpList_buildTo rfl 24 _ rfl (some 10) rfl cTick.val (by as_aux_lemma => kernel_rfl) ?_)
    | (go_at_call 11; (refine (CT.out _ (HT.out.below HB1)).mono ?_); rintro e w2 ⟨c', rfl, HE, HL, HB2⟩)
    | (refine store_cmd rfl (.tmp 3) (.tmp 16) rfl rfl w2.heap.size c' zeroC rfl rfl (heap_alloc_new w2 _) ?_; refine wpl_named fun w3 hw3 => ?_; have HS3 : Hid (Stand w3 w2.heap.size c') := (by rw [hw3]; exact stand_of_heap (setRow_cmd c' (c0 := zeroC) (heap_alloc_new w2 _))); have HB23 : Hid (Below w2.heap.size w2 w3) := (by rw [hw3]; exact below_setRow (below_al (Below.refl _ _) _) _ (Nat.le_refl _) _); have HB3 := Lib.hid (below2 HB1 (below2 HB2.out HB23.out)); have HL3 := Lib.hid (HL.out.below HB23.out); clear hw3)
    | (refine wpList_buildTo rfl 24 _ rfl (some 19) rfl cTock.val (by as_aux_lemma => kernel_rfl) ?_)
    | (go_at_call 9; (with_reducible refine (CP2.out _ (HT.out.below HB3.out)).mono ?_); rintro e w4 ⟨rfl, HB4⟩; have HS4 := Lib.hid (HS3.out.below HB4); have HL4 := Lib.hid (HL3.out.below HB4)))
  apply wp_region_lit
  refine load_cmd rfl (.tmp 3) rfl w2.heap.size rfl c' HS4.out ?_
  go_upto_region 5 with (go_at_call 16; (with_reducible refine (CG.out _ HE.out _).mono ?_); rintro e w5 ⟨rfl, HB5⟩; have HS5 := Lib.hid (HS4.out.below HB5); have HL5 := Lib.hid (HL4.out.below HB5); have HB15 := Lib.hid (below2 HB3.out (below2 HB4 HB5)))
  have qs1 : (bs [20, 10]).toList = [20, 10] := by decide +kernel
  have qs2 : (ByteArray.mk #[102, 111, 117, 110, 100]).toList = [102, 111, 117, 110, 100] := by decide +kernel
  apply wp_region_lit
  iterate 11 (refine wpList_step (fun K hK => ?_); go_simp; refine hK _ _ ?_; clear hK K)
  refine wpList_unguard rfl ?_
  refine load_cmd rfl (.tmp 3) rfl w2.heap.size rfl c' HS5.out ?_
  refine wpList_unguard rfl ?_
  refine wpList_buildTo rfl 24 _ rfl (some 40) rfl cDeliver.val (by as_aux_lemma => kernel_rfl) ?_
  go_wp2_with (first
    | (go_at_call 13; (with_reducible refine (CS.out _ HE.out _ HL5.out).mono ?_); rintro e w6 ⟨rfl, HB6⟩; have HB16 := Lib.hid (below2 HB15.out HB6))
    | (go_at_call 23; (with_reducible refine (CN.out _).mono ?_); rintro e w7 ⟨rfl, HB7⟩)
    | (go_at_call 25; (with_reducible refine (CK.out _).mono ?_); rintro e w8 ⟨rfl, HB8⟩; have HB18 := Lib.hid (below2 HB16.out (below2 HB7 HB8)))
    | (go_at_call 21; (with_reducible refine (CF.out _ (HT.out.below HB18.out)).mono ?_); rintro e w9 ⟨a9, k9, rfl, HF9, HB9, -⟩; rw [HL7.out]; have HB19 := Lib.hid (below2 HB18.out HB9.out))
    | (go_at_call 20; (refine (CW.out _ _ _ _ _ (Strs.below HF9.out (below_al (Below.refl _ _) _)) (str4 w9)).mono ?_); rintro e w10 ⟨rfl, HB10⟩))
  all_goals go_ret
  all_goals exact ⟨rfl, below2 HB19.out (below2 (below_al (Below.refl _ _) _) HB10)⟩
end Cmd
end Go.Proofs.YtbjlkeneeodghaaDoor
