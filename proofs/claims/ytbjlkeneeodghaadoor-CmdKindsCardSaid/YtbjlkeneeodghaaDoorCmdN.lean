/- The law of a command's fields: the walk. -/
import Derived.Test.YtbjlkeneeodghaaDoorCmdM
set_option linter.unusedSimpArgs false
set_option linter.unusedVariables false
namespace Go.Proofs.YtbjlkeneeodghaaDoor
open Go.RowKit Go.Great
namespace Cmd
open Pen (bs bs_append uintB intB I64 intS uintS doneS)
open In (Strs)
open Rec (below2 below_al below_dN Stk Stks stkVals stkVals_append stks_of_own)
def fewB (c : CmdIn) : Bool := decide ((c.gives.length : Int) ≤ 12) && decide ((c.wants.length : Int) ≤ 12)
theorem fewB_le {c : CmdIn} (h : fewB c = true) : c.gives.length ≤ 100 ∧ c.wants.length ≤ 100 := by
  unfold fewB at h
  rw [Bool.and_eq_true, decide_eq_true_eq, decide_eq_true_eq] at h
  omega
set_option maxRecDepth 100000 in
set_option maxHeartbeats 1000000 in
theorem fields_law (c : CmdIn) (s : ByteArray) (n : Int) (w : World) (ht : Tab w) (hl : Lies w c) : Calls Tryd.prog 5 #[.agg c.val, .string s, .int .i64 n] w fun e w' => e = .returned (.bool true) ∧ Below w.heap.size w w' := by
  have HT := Lib.hid ht
  have HL := Lib.hid hl
  have HST := Lib.hid (stand_new (w := w) rfl c)
  have CA : Hid (∀ W, Tab W → Calls Tryd.prog 8 #[] W fun e w' => e = .returned (.bool true) ∧ Below W.heap.size W w') := fun W h => awake_any W h
  have CFEW : Hid (∀ W, Calls Tryd.prog 7 #[.agg c.val] W fun e w' => e = .returned (.bool (fewB c)) ∧ Below W.heap.size W w') := fun W => few_any c W
  clear ht hl
  by_cases hfew : fewB c = true ∧ ¬ (40 : Int) < (s.size : Int)
  · obtain ⟨hf, hlen⟩ := hfew
    have HFEW := Lib.hid (fewB_le hf)
    rw [hf] at CFEW
    have dlen : decide ((40 : Int) < (s.size : Int)) = false := decide_eq_false hlen
    have CG1 : Hid (∀ W, Calls Tryd.prog 16 #[.agg c.val, .string s] W fun e w' => e = .returned (.tuple #[.int .i64 (getV c s).1, .bool (getV c s).2]) ∧ Below W.heap.size W w') := fun W => get_any c s W
    have CG2 : Hid (∀ W, Calls Tryd.prog 17 #[.agg c.val, .string s] W fun e w' => e = .returned (.tuple #[.int .i64 (getV c s).1, .bool (getV c s).2]) ∧ Below W.heap.size W w') := fun W => refGet_any c s W
    have CS1 : Hid (∀ W, Lies W c → Calls Tryd.prog 18 #[.agg c.val, .string s, .int .i64 n] W (GivesB (setV c s n) (place s).isSome W)) := fun W h => set_any c s n W h HFEW.out
    have CS2 : Hid (∀ W, Lies W c → Calls Tryd.prog 19 #[.agg c.val, .string s, .int .i64 n] W (GivesB (setV c s n) (place s).isSome W)) := fun W h => refSet_any c s n W h
    have HSL : Hid ((setV c s n).gives.length ≤ 100 ∧ (setV c s n).wants.length ≤ 100) := by
      show _ ∧ _
      unfold setV
      cases place s with
      | some i => exact HFEW.out
      | none => exact ⟨Nat.zero_le _, Nat.zero_le _⟩
    generalize setV c s n = SV at *
    generalize (place s).isSome = PB at *
    have CSM : Hid (∀ c1 c2, Eqv c1 SV → Eqv c2 SV → ∀ W, Lies W c1 → Lies W c2 → Calls Tryd.prog 13 #[.agg c1.val, .agg c2.val] W fun e w' => e = .returned (.bool true) ∧ Below W.heap.size W w') := fun c1 c2 e1 e2 W l1 l2 => sameC_any c1 c2 W (Eqv.trans e1 (Eqv.symm e2)) l1 l2 (by rw [e1.gives, e1.wants]; exact HSL.out)
    have CF1 : Hid (∀ W, Tab W → Calls Tryd.prog 21 #[.int .i64 n] W (Gives (fn n) W)) := fun W h => fields_any n W h
    have CF2 : Hid (∀ W, Calls Tryd.prog 22 #[.int .i64 n] W (Gives (fn n) W)) := fun W => refFields_any n W
    have CW : Hid (∀ (a b : Option Addr) (c d : Nat) (w : World), Strs w a (fn n) → Strs w b (fn n) → Calls Tryd.prog 20 #[.slice a (fn n).length c, .slice b (fn n).length d] w fun e w' => e = .returned (.bool true) ∧ Below w.heap.size w w') := fun a b c d w ha hb => sameWords_any a b c d (fn n) _ rfl (by have := fn_len n; omega) w ha hb
    have CN1 : Hid (∀ W, Calls Tryd.prog 23 #[.int .i64 n] W fun e w' => e = .returned (.string (nameOf n)) ∧ Below W.heap.size W w') := fun W => name_any n W
    have CN2 : Hid (∀ W, Calls Tryd.prog 24 #[.int .i64 n] W fun e w' => e = .returned (.string (nameOf n)) ∧ Below W.heap.size W w') := fun W => refName_any n W
    have CK1 : Hid (∀ W, Calls Tryd.prog 25 #[.string s] W fun e w' => e = .returned (.int .i64 (kindOf s)) ∧ Below W.heap.size W w') := fun W => kind_any s W
    have CK2 : Hid (∀ W, Calls Tryd.prog 26 #[.string s] W fun e w' => e = .returned (.int .i64 (kindOf s)) ∧ Below W.heap.size W w') := fun W => refKind_any s W
    generalize fn n = F at *
    generalize nameOf n = NM at *
    generalize kindOf s = KD at *
    generalize (getV c s).1 = GV at *
    generalize (getV c s).2 = GB at *
    have qn := beq_yes (rfl : NM = NM)
    go_enter Tryd.func5, Tryd.ntmps5
    go_upto_region 1 with fail
    apply wp_region_lit
    refine load_cmd rfl (.tmp 3) rfl w.heap.size rfl c HST.out ?_
    go_upto_region 3 with (go_at_call 7; (with_reducible refine (CFEW.out _).mono ?_); rintro e w1 ⟨rfl, hb1⟩; have HS1 := Lib.hid (HST.out.below hb1); have HB1 := Lib.hid (below2 (below_al (Below.refl w.heap.size w) _) hb1); clear hb1)
    apply wp_region_lit
    refine load_cmd rfl (.tmp 3) rfl w.heap.size rfl c HS1.out ?_
    go_upto_region 4 with (go_at_call 16; (with_reducible refine (CG1.out _).mono ?_); rintro e w2 ⟨rfl, hb2⟩; have HS2 := Lib.hid (HS1.out.below hb2); have HB2 := Lib.hid (below2 HB1.out hb2); clear hb2)
    apply wp_region_lit
    refine load_cmd rfl (.tmp 3) rfl w.heap.size rfl c HS2.out ?_
    go_upto_region 5 with (go_at_call 17; (with_reducible refine (CG2.out _).mono ?_); rintro e w3 ⟨rfl, hb3⟩; have HS3 := Lib.hid (HS2.out.below hb3); have HB3 := Lib.hid (below2 HB2.out hb3); clear hb3)
    apply wp_region_lit
    refine load_cmd rfl (.tmp 3) rfl w.heap.size rfl c HS3.out ?_
    go_upto_region 6 with (first
      | (go_at_call 18; (with_reducible refine (CS1.out _ (HL.out.below HB3.out)).mono ?_); rintro e w4 ⟨c4, rfl, HE4, HL4, HB4⟩)
      | (refine store_cmd rfl (.tmp 11) (.tmp 41) rfl rfl w4.heap.size c4 zeroC rfl rfl (heap_alloc_new w4 _) ?_; refine wpl_named fun w5 hw5 => ?_; have HS5 : Hid (Stand w5 w4.heap.size c4) := (by rw [hw5]; exact stand_of_heap (setRow_cmd c4 (c0 := zeroC) (heap_alloc_new w4 _))); have HB45 : Hid (Below w4.heap.size w4 w5) := (by rw [hw5]; exact below_setRow (below_al (Below.refl _ _) _) _ (Nat.le_refl _) _); have HB5 := Lib.hid (below2 HB3.out (below2 HB4.out HB45.out)); have HL5 := Lib.hid (HL4.out.below HB45.out); have HT5 := Lib.hid (HS3.out.below (below2 HB4.out HB45.out)); clear hw5))
    apply wp_region_lit
    refine load_cmd rfl (.tmp 3) rfl w.heap.size rfl c HT5.out ?_
    go_upto_region 7 with (first
      | (go_at_call 19; (with_reducible refine (CS2.out _ (HL.out.below HB5.out)).mono ?_); rintro e w6 ⟨c6, rfl, HE6, HL6, HB6⟩)
      | (refine store_cmd rfl (.tmp 13) (.tmp 48) rfl rfl w6.heap.size c6 zeroC rfl rfl (heap_alloc_new w6 _) ?_; refine wpl_named fun w7 hw7 => ?_; have HS7 : Hid (Stand w7 w6.heap.size c6) := (by rw [hw7]; exact stand_of_heap (setRow_cmd c6 (c0 := zeroC) (heap_alloc_new w6 _))); have HB67 : Hid (Below w6.heap.size w6 w7) := (by rw [hw7]; exact below_setRow (below_al (Below.refl _ _) _) _ (Nat.le_refl _) _); have HB57 := Lib.hid (below2 HB6.out HB67.out); have HB7 := Lib.hid (below2 HB5.out HB57.out); have HL7 := Lib.hid (HL6.out.below HB67.out); have HT7 := Lib.hid (HS5.out.below HB57.out); have HM7 := Lib.hid (HL5.out.below HB57.out); clear hw7))
    apply wp_region_lit
    have qg : (GV != GV) = false := by simp
    have qb : (GB != GB) = false := by simp
    have qp : (PB != PB) = false := by simp
    iterate 9 (refine wpList_step (fun K hK => ?_); go_simp; refine hK _ _ ?_; clear hK K)
    refine wpList_unguard rfl ?_
    refine load_cmd rfl (.tmp 11) rfl w4.heap.size rfl c4 HT7.out ?_
    refine wpList_unguard rfl ?_
    refine load_cmd rfl (.tmp 13) rfl w6.heap.size rfl c6 HS7.out ?_
    go_wp2_with (first
      | (go_at_call 13; (with_reducible refine (CSM.out _ _ HE4.out HE6.out _ HM7.out HL7.out).mono ?_); rintro e w8 ⟨rfl, hb8⟩; have HB8 := Lib.hid (below2 HB7.out hb8); clear hb8)
      | (go_at_call 21; (with_reducible refine (CF1.out _ (HT.out.below HB8.out)).mono ?_); rintro e w9 ⟨a9, k9, rfl, HF9, HB9, -⟩; have HB19 := Lib.hid (below2 HB8.out HB9.out))
      | (go_at_call 22; (with_reducible refine (CF2.out _).mono ?_); rintro e w10 ⟨a10, k10, rfl, HF10, HB10, -⟩; have HF910 := Lib.hid (Strs.below HF9.out HB10.out); have HB110 := Lib.hid (below2 HB19.out HB10.out))
      | (go_at_call 20; (with_reducible refine (CW.out _ _ _ _ _ HF910.out HF10.out).mono ?_); rintro e w11 ⟨rfl, hb11⟩; have HB11 := Lib.hid (below2 HB110.out hb11); clear hb11)
      | (go_at_call 23; (with_reducible refine (CN1.out _).mono ?_); rintro e w12 ⟨rfl, hb12⟩; have HB12 := Lib.hid (below2 HB11.out hb12); clear hb12)
      | (go_at_call 24; (with_reducible refine (CN2.out _).mono ?_); rintro e w13 ⟨rfl, hb13⟩; have HB13 := Lib.hid (below2 HB12.out hb13); clear hb13)
      | (go_at_call 25; (with_reducible refine (CK1.out _).mono ?_); rintro e w14 ⟨rfl, hb14⟩; have HB14 := Lib.hid (below2 HB13.out hb14); clear hb14)
      | (go_at_call 26; (with_reducible refine (CK2.out _).mono ?_); rintro e w15 ⟨rfl, hb15⟩; have HB15 := Lib.hid (below2 HB14.out hb15); clear hb15)
      | (go_at_call 8; (with_reducible refine (CA.out _ (HT.out.below HB15.out)).mono ?_); rintro e w16 ⟨rfl, hb16⟩; have HB16 := Lib.hid (below2 HB15.out hb16); clear hb16))
    all_goals go_ret
    all_goals exact ⟨rfl, HB16.out⟩
  · have hor : fewB c = false ∨ (fewB c = true ∧ (40 : Int) < (s.size : Int)) := by
      cases h : fewB c with
      | false => exact Or.inl rfl
      | true => exact Or.inr ⟨rfl, Decidable.byContradiction fun hn => hfew ⟨h, hn⟩⟩
    clear hfew
    rcases hor with hf | ⟨hf, hlen⟩
    · rw [hf] at CFEW
      go_enter Tryd.func5, Tryd.ntmps5
      go_upto_region 1 with fail
      apply wp_region_lit
      refine load_cmd rfl (.tmp 3) rfl w.heap.size rfl c HST.out ?_
      go_wp2_with (first
        | (go_at_call 7; (with_reducible refine (CFEW.out _).mono ?_); rintro e w1 ⟨rfl, hb1⟩; have HB1 := Lib.hid (below2 (below_al (Below.refl w.heap.size w) _) hb1); clear hb1)
        | (go_at_call 8; (with_reducible refine (CA.out _ (HT.out.below HB1.out)).mono ?_); rintro e w2 ⟨rfl, hb2⟩; have HB2 := Lib.hid (below2 HB1.out hb2); clear hb2))
      all_goals go_ret
      all_goals exact ⟨rfl, HB2.out⟩
    · rw [hf] at CFEW
      have dlen : decide ((40 : Int) < (s.size : Int)) = true := decide_eq_true hlen
      go_enter Tryd.func5, Tryd.ntmps5
      go_upto_region 1 with fail
      apply wp_region_lit
      refine load_cmd rfl (.tmp 3) rfl w.heap.size rfl c HST.out ?_
      go_wp2_with (first
        | (go_at_call 7; (with_reducible refine (CFEW.out _).mono ?_); rintro e w1 ⟨rfl, hb1⟩; have HB1 := Lib.hid (below2 (below_al (Below.refl w.heap.size w) _) hb1); clear hb1)
        | (go_at_call 8; (with_reducible refine (CA.out _ (HT.out.below HB1.out)).mono ?_); rintro e w2 ⟨rfl, hb2⟩; have HB2 := Lib.hid (below2 HB1.out hb2); clear hb2))
      all_goals go_ret
      all_goals exact ⟨rfl, HB2.out⟩
end Cmd
end Go.Proofs.YtbjlkeneeodghaaDoor
