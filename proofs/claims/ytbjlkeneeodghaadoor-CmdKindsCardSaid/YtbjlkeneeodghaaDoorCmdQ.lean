/- The law of a command's bytes, there and back: the walk. -/
import Derived.Test.YtbjlkeneeodghaaDoorCmdQa
set_option linter.unusedSimpArgs false
set_option linter.unusedVariables false
namespace Go.Proofs.YtbjlkeneeodghaaDoor
open Go.RowKit Go.Great
namespace Cmd
open Pen (bs bs_append uintB intB I64 intS uintS doneS)
open In (Strs)
open Rec (below2 below_al below_dN Stk Stks stkVals stkVals_append stks_of_own)
set_option maxRecDepth 100000 in
set_option maxHeartbeats 8000000 in
theorem back_0 (c : CmdIn) (s : ByteArray) (n : Int) (hn : 0 ≤ n ∧ n < 256) (w : World) (ht : Tab w) (hl : Lies w c) (hc0 : c.gives.length ≤ 100 ∧ c.wants.length ≤ 100 → Cok c) (hz : Clear c) (hfew : fewB c = true ∧ ¬ (512 : Int) < (s.size : Int)) (h0 : chkV c = 0) : Calls Tryd.prog 4 #[.agg c.val, .string s, .int .u8 n] w fun e w' => e = .returned (.bool true) ∧ Below w.heap.size w w' := by
  have HT := Lib.hid ht
  have HL := Lib.hid hl
  have HST := Lib.hid (stand_new (w := w) rfl c)
  have CA : Hid (∀ W, Tab W → Calls Tryd.prog 8 #[] W fun e w' => e = .returned (.bool true) ∧ Below W.heap.size W w') := fun W h => awake_any W h
  have CFEW : Hid (∀ W, Calls Tryd.prog 7 #[.agg c.val] W fun e w' => e = .returned (.bool (fewB c)) ∧ Below W.heap.size W w') := fun W => few_any c W
  clear ht hl
  obtain ⟨hf, hlen⟩ := hfew
  have hc := hc0 (fewB_le hf)
  have HC := Lib.hid hc
  rw [hf] at CFEW
  have dlen : decide ((512 : Int) < (s.size : Int)) = false := decide_eq_false hlen
  have key : ∃ (x : CmdIn) (g : Int) (TS : ByteArray) (H : Int), Hid (∀ W, Tab W → Calls Tryd.prog 11 #[.string s] W (GivesT (x, g) W)) ∧ Hid (∀ cx, Eqv cx x → ∀ W, Tab W → Lies W cx → Calls Tryd.prog 9 #[.agg cx.val] W fun e w' => e = .returned (.tuple #[.string TS, .int .i64 H]) ∧ Below W.heap.size W w') ∧ ((g = 0 ∧ H = 0 ∧ TS = s) ∨ g = 2) := by
    obtain ⟨h1, h2⟩ := back_put s
    refine ⟨(takeV s.data.toList).1, (takeV s.data.toList).2, bs (putV (takeV s.data.toList).1).1, (putV (takeV s.data.toList).1).2, fun W hW => take_any s (by omega) W hW, fun cx hx W hW hLx => ?_, ?_⟩
    · have := put_any cx W hW hLx (cok_eqv hx h1)
      rw [putV_eqv hx] at this
      exact this
    · rcases h2 with ⟨h2, h3⟩ | h2
      · exact Or.inl ⟨h2, by rw [h3], by rw [h3]; exact bs_self s⟩
      · exact Or.inr h2
  obtain ⟨x, g, TS, H, CT1, CP2, hk⟩ := key
  have qs := beq_yes (rfl : s = s)
  have CP1 : Hid (∀ W, Tab W → Lies W c → Calls Tryd.prog 9 #[.agg c.val] W fun e w' => e = .returned (.tuple #[.string (bs (cmdB c)), .int .i64 0]) ∧ Below W.heap.size W w') := fun W h hL => by
    have := put_any c W h hL hc
    unfold putV at this
    rw [if_pos h0] at this
    exact this
  obtain ⟨A0, A1⟩ := cmdB_len c hc h0
  obtain ⟨A, hA⟩ : ∃ A, Hid (cmdB c = A) := ⟨_, rfl⟩
  have hsz : (bs A).size = A.length := Pen.bs_size A
  have CT2 : Hid (∀ W, Tab W → Calls Tryd.prog 11 #[.string (bs A)] W fun e w' => ∃ c', e = .returned (.tuple #[.agg c'.val, .int .i64 0]) ∧ Hid (Eqv c' c) ∧ Hid (Lies w' c') ∧ Hid (Below W.heap.size W w')) := fun W hW => by
    refine (take_any (bs A) (by rw [hsz, ← hA.out]; omega) W hW).mono ?_
    rintro e w' ⟨c', e1, h2, h3, h4⟩
    have ht := take_put c hc hz h0
    rw [hA.out] at ht
    exact ⟨c', by rw [e1]; show _ = Ending.returned (.tuple #[.agg c'.val, .int .i64 0]); rw [← ht.2]; rfl, Eqv.trans h2 ht.1, h3, h4⟩
  obtain ⟨r, hr⟩ : ∃ r, Hid (Int.tmod n (A.length : Int) = r) := ⟨_, rfl⟩
  have hAl : A.length ≤ 10000 := by rw [← hA.out]; exact A1
  have CT3 : Hid (∀ W, Tab W → Calls Tryd.prog 11 #[.string ((bs A).extract 0 ((n % (A.length : Int)).toNat))] W fun e w' => ∃ c' : CmdIn, e = .returned (.tuple #[.agg c'.val, .int .i64 2]) ∧ Hid True ∧ Hid True ∧ Hid (Below W.heap.size W w')) := fun W hW => by
    have hx : ((bs A).extract 0 ((n % (A.length : Int)).toNat)).data.toList = A.take ((n % (A.length : Int)).toNat) := by
      simp [bs, ByteArray.extract, ByteArray.copySlice]
    have hlt : (n % (A.length : Int)).toNat < A.length := by
      have h0 : 0 < A.length := by rw [← hA.out]; exact A0
      have h1 := Int.emod_lt_of_pos n (show (0 : Int) < (A.length : Int) by omega)
      have h2 := Int.emod_nonneg n (show (A.length : Int) ≠ 0 by omega)
      omega
    refine (take_any ((bs A).extract 0 ((n % (A.length : Int)).toNat)) (by have := congrArg List.length hx; rw [List.length_take] at this; show (ByteArray.extract (bs A) 0 ((n % (A.length : Int)).toNat)).data.size ≤ _; rw [← Array.length_toList, this]; omega) W hW).mono ?_
    rintro e w' ⟨c', e1, h2, h3, h4⟩
    have ht := take_cut c hc hz h0 ((n % (A.length : Int)).toNat) (by rw [hA.out]; exact hlt)
    rw [hA.out] at ht
    exact ⟨c', by rw [e1, hx]; show _ = Ending.returned (.tuple #[.agg c'.val, .int .i64 2]); rw [← ht], trivial, trivial, h4⟩
  have CT4 : Hid (∀ W, Tab W → Calls Tryd.prog 11 #[.string (bs (A ++ [0]))] W fun e w' => ∃ c' : CmdIn, e = .returned (.tuple #[.agg c'.val, .int .i64 2]) ∧ Hid True ∧ Hid True ∧ Hid (Below W.heap.size W w')) := fun W hW => by
    refine (take_any (bs (A ++ [0])) (by rw [Pen.bs_size, List.length_append]; show A.length + 1 ≤ _; rw [← hA.out]; omega) W hW).mono ?_
    rintro e w' ⟨c', e1, h2, h3, h4⟩
    have ht := take_more c hc hz h0 0 []
    rw [hA.out] at ht
    exact ⟨c', by rw [e1]; show _ = Ending.returned (.tuple #[.agg c'.val, .int .i64 2]); rw [← ht]; rfl, trivial, trivial, h4⟩
  have CSM : Hid (∀ cb, Eqv cb c → ∀ W, Lies W cb → Lies W c → Calls Tryd.prog 13 #[.agg cb.val, .agg c.val] W fun e w' => e = .returned (.bool true) ∧ Below W.heap.size W w') := fun cb h W l1 l2 => sameC_any cb c W h l1 l2 (by rw [h.gives, h.wants]; exact hc.few)
  rw [hA.out] at CP1 A0 A1
  obtain ⟨hm0, hm1, hm2⟩ : 0 ≤ n % (A.length : Int) ∧ n % (A.length : Int) ≤ (A.length : Int) ∧ ¬ (A.length : Int) = 0 := by
    have h1 := Int.emod_lt_of_pos n (show (0 : Int) < (A.length : Int) by omega)
    have h2 := Int.emod_nonneg n (show (A.length : Int) ≠ 0 by omega)
    omega
  have hm3 : 0 ≤ n % (A.length : Int) ∧ n % (A.length : Int) ≤ (A.length : Int) := ⟨hm0, hm1⟩
  have hap : bs A ++ ByteArray.mk #[0] = bs (A ++ [0]) := bs_append A [0]
  clear h0 hc hc0
  rcases hk with ⟨rfl, rfl, rfl⟩ | rfl
  all_goals
    go_enter Tryd.func4, Tryd.ntmps4
    go_upto_region 1 with fail
    apply wp_region_lit
    refine load_cmd rfl (.tmp 3) rfl w.heap.size rfl c HST.out ?_
    go_upto_region 3 with (go_at_call 7; (with_reducible refine (CFEW.out _).mono ?_); rintro e w1 ⟨rfl, hb1⟩; have HS1 := Lib.hid (HST.out.below hb1); have HB1 := Lib.hid (below2 (below_al (Below.refl w.heap.size w) _) hb1); clear hb1)
    apply wp_region_lit
    refine load_cmd rfl (.tmp 3) rfl w.heap.size rfl c HS1.out ?_
    go_upto_region 4 with (go_at_call 9; (with_reducible refine (CP1.out _ (HT.out.below HB1.out) (HL.out.below HB1.out)).mono ?_); rintro e w2 ⟨rfl, hb2⟩; have HS2 := Lib.hid (HS1.out.below hb2); have HB2 := Lib.hid (below2 HB1.out hb2); clear hb2)
    go_upto_region 5 with (first
      | (go_at_call 11; (with_reducible refine (CT1.out _ (HT.out.below HB2.out)).mono ?_); rintro e w3 ⟨cx, rfl, HE3, HL3, HB3⟩)
      | (refine store_cmd rfl (.tmp 9) (.tmp 36) rfl rfl w3.heap.size cx zeroC rfl rfl (heap_alloc_new w3 _) ?_; refine wpl_named fun w4 hww4 => ?_; have HS4 : Hid (Stand w4 w3.heap.size cx) := (by rw [hww4]; exact stand_of_heap (setRow_cmd cx (c0 := zeroC) (heap_alloc_new w3 _))); have HNw4 : Hid (Below w3.heap.size w3 w4) := (by rw [hww4]; exact below_setRow (below_al (Below.refl _ _) _) _ (Nat.le_refl _) _); have HB4 := Lib.hid (below2 HB2.out (below2 HB3.out HNw4.out)); have HL4 := Lib.hid (HL3.out.below HNw4.out); have HC4 := Lib.hid (HS2.out.below (below2 HB3.out HNw4.out)); clear hww4))
    apply wp_region_lit
    refine load_cmd rfl (.tmp 9) rfl w3.heap.size rfl cx HS4.out ?_
    go_upto_region 12 with (go_at_call 9; (with_reducible refine (CP2.out _ HE3.out _ (HT.out.below HB4.out) HL4.out).mono ?_); rintro e w5 ⟨rfl, hb5⟩; have HC5 := Lib.hid (HC4.out.below hb5); have HB5 := Lib.hid (below2 HB4.out hb5); clear hb5)
    go_upto_region 13 with (first
      | (go_at_call 11; (with_reducible refine (CT2.out _ (HT.out.below HB5.out)).mono ?_); rintro e w6 ⟨cb, rfl, HE6, HL6, HB6⟩)
      | (refine store_cmd rfl (.tmp 13) (.tmp 79) rfl rfl w6.heap.size cb zeroC rfl rfl (heap_alloc_new w6 _) ?_; refine wpl_named fun w7 hww7 => ?_; have HS7 : Hid (Stand w7 w6.heap.size cb) := (by rw [hww7]; exact stand_of_heap (setRow_cmd cb (c0 := zeroC) (heap_alloc_new w6 _))); have HNw7 : Hid (Below w6.heap.size w6 w7) := (by rw [hww7]; exact below_setRow (below_al (Below.refl _ _) _) _ (Nat.le_refl _) _); have HB7 := Lib.hid (below2 HB5.out (below2 HB6.out HNw7.out)); have HL7 := Lib.hid (HL6.out.below HNw7.out); have HC7 := Lib.hid (HC5.out.below (below2 HB6.out HNw7.out)); clear hww7))
    go_upto_region 14 with (first
      | (go_at_call 11; (with_reducible refine (CT3.out _ (HT.out.below HB7.out)).mono ?_); rintro e w8 ⟨cc, rfl, -, -, HB8⟩)
      | (refine store_cmd rfl (.tmp 15) (.tmp 90) rfl rfl w8.heap.size cc zeroC rfl rfl (heap_alloc_new w8 _) ?_; refine wpl_named fun w9 hww9 => ?_; have HS9 : Hid (Stand w9 w8.heap.size cc) := (by rw [hww9]; exact stand_of_heap (setRow_cmd cc (c0 := zeroC) (heap_alloc_new w8 _))); have HNw9 : Hid (Below w8.heap.size w8 w9) := (by rw [hww9]; exact below_setRow (below_al (Below.refl _ _) _) _ (Nat.le_refl _) _); have HB9 := Lib.hid (below2 HB7.out (below2 HB8.out HNw9.out)); have HL9 := Lib.hid (HL7.out.below (below2 HB8.out HNw9.out)); have HC9 := Lib.hid (HC7.out.below (below2 HB8.out HNw9.out)); have HD9 := Lib.hid (HS7.out.below (below2 HB8.out HNw9.out)); clear hww9))
    go_upto_region 15 with (first
      | (go_at_call 11; (with_reducible refine (CT4.out _ (HT.out.below HB9.out)).mono ?_); rintro e w10 ⟨cd, rfl, -, -, HB10⟩)
      | (refine store_cmd rfl (.tmp 17) (.tmp 96) rfl rfl w10.heap.size cd zeroC rfl rfl (heap_alloc_new w10 _) ?_; refine wpl_named fun w11 hww11 => ?_; have HS11 : Hid (Stand w11 w10.heap.size cd) := (by rw [hww11]; exact stand_of_heap (setRow_cmd cd (c0 := zeroC) (heap_alloc_new w10 _))); have HNw11 : Hid (Below w10.heap.size w10 w11) := (by rw [hww11]; exact below_setRow (below_al (Below.refl _ _) _) _ (Nat.le_refl _) _); have HB11 := Lib.hid (below2 HB9.out (below2 HB10.out HNw11.out)); have HL11 := Lib.hid (HL9.out.below (below2 HB10.out HNw11.out)); have HC11 := Lib.hid (HC9.out.below (below2 HB10.out HNw11.out)); have HD11 := Lib.hid (HD9.out.below (below2 HB10.out HNw11.out)); clear hww11))
    apply wp_region_lit
    iterate 3 (refine wpList_step (fun K hK => ?_); go_simp; refine hK _ _ ?_; clear hK K)
    refine wpList_unguard rfl ?_
    refine load_cmd rfl (.tmp 13) rfl w6.heap.size rfl cb HD11.out ?_
    refine wpList_unguard rfl ?_
    refine load_cmd rfl (.tmp 3) rfl w.heap.size rfl c HC11.out ?_
    go_wp2_with (first
      | (go_at_call 13; (with_reducible refine (CSM.out _ HE6.out _ HL11.out (HL.out.below HB11.out)).mono ?_); rintro e w12 ⟨rfl, hb12⟩; have HB12 := Lib.hid (below2 HB11.out hb12); clear hb12)
      | (go_at_call 8; (with_reducible refine (CA.out _ (HT.out.below HB12.out)).mono ?_); rintro e w13 ⟨rfl, hb13⟩; have HB13 := Lib.hid (below2 HB12.out hb13); clear hb13))
    all_goals go_ret
    all_goals exact ⟨rfl, HB13.out⟩
set_option maxRecDepth 100000 in
set_option maxHeartbeats 8000000 in
theorem back_1 (c : CmdIn) (s : ByteArray) (n : Int) (hn : 0 ≤ n ∧ n < 256) (w : World) (ht : Tab w) (hl : Lies w c) (hc0 : c.gives.length ≤ 100 ∧ c.wants.length ≤ 100 → Cok c) (hz : Clear c) (hfew : fewB c = true ∧ ¬ (512 : Int) < (s.size : Int)) (h1 : chkV c = 1) : Calls Tryd.prog 4 #[.agg c.val, .string s, .int .u8 n] w fun e w' => e = .returned (.bool true) ∧ Below w.heap.size w w' := by
  have HT := Lib.hid ht
  have HL := Lib.hid hl
  have HST := Lib.hid (stand_new (w := w) rfl c)
  have CA : Hid (∀ W, Tab W → Calls Tryd.prog 8 #[] W fun e w' => e = .returned (.bool true) ∧ Below W.heap.size W w') := fun W h => awake_any W h
  have CFEW : Hid (∀ W, Calls Tryd.prog 7 #[.agg c.val] W fun e w' => e = .returned (.bool (fewB c)) ∧ Below W.heap.size W w') := fun W => few_any c W
  clear ht hl
  obtain ⟨hf, hlen⟩ := hfew
  have hc := hc0 (fewB_le hf)
  have HC := Lib.hid hc
  rw [hf] at CFEW
  have dlen : decide ((512 : Int) < (s.size : Int)) = false := decide_eq_false hlen
  have key : ∃ (x : CmdIn) (g : Int) (TS : ByteArray) (H : Int), Hid (∀ W, Tab W → Calls Tryd.prog 11 #[.string s] W (GivesT (x, g) W)) ∧ Hid (∀ cx, Eqv cx x → ∀ W, Tab W → Lies W cx → Calls Tryd.prog 9 #[.agg cx.val] W fun e w' => e = .returned (.tuple #[.string TS, .int .i64 H]) ∧ Below W.heap.size W w') ∧ ((g = 0 ∧ H = 0 ∧ TS = s) ∨ g = 2) := by
    obtain ⟨h1, h2⟩ := back_put s
    refine ⟨(takeV s.data.toList).1, (takeV s.data.toList).2, bs (putV (takeV s.data.toList).1).1, (putV (takeV s.data.toList).1).2, fun W hW => take_any s (by omega) W hW, fun cx hx W hW hLx => ?_, ?_⟩
    · have := put_any cx W hW hLx (cok_eqv hx h1)
      rw [putV_eqv hx] at this
      exact this
    · rcases h2 with ⟨h2, h3⟩ | h2
      · exact Or.inl ⟨h2, by rw [h3], by rw [h3]; exact bs_self s⟩
      · exact Or.inr h2
  obtain ⟨x, g, TS, H, CT1, CP2, hk⟩ := key
  have qs := beq_yes (rfl : s = s)
  have CP1 : Hid (∀ W, Tab W → Lies W c → Calls Tryd.prog 9 #[.agg c.val] W fun e w' => e = .returned (.tuple #[.string (bs []), .int .i64 1]) ∧ Below W.heap.size W w') := fun W h hL => by
    have := put_any c W h hL hc
    unfold putV at this
    rw [if_neg (by rw [h1]; decide)] at this
    exact this
  have qe : (bs []).toList = [] := by decide +kernel
  clear h1 hc hc0
  rcases hk with ⟨rfl, rfl, rfl⟩ | rfl
  all_goals
    go_enter Tryd.func4, Tryd.ntmps4
    go_upto_region 1 with fail
    apply wp_region_lit
    refine load_cmd rfl (.tmp 3) rfl w.heap.size rfl c HST.out ?_
    go_upto_region 3 with (go_at_call 7; (with_reducible refine (CFEW.out _).mono ?_); rintro e w1 ⟨rfl, hb1⟩; have HS1 := Lib.hid (HST.out.below hb1); have HB1 := Lib.hid (below2 (below_al (Below.refl w.heap.size w) _) hb1); clear hb1)
    apply wp_region_lit
    refine load_cmd rfl (.tmp 3) rfl w.heap.size rfl c HS1.out ?_
    go_upto_region 4 with (go_at_call 9; (with_reducible refine (CP1.out _ (HT.out.below HB1.out) (HL.out.below HB1.out)).mono ?_); rintro e w2 ⟨rfl, hb2⟩; have HS2 := Lib.hid (HS1.out.below hb2); have HB2 := Lib.hid (below2 HB1.out hb2); clear hb2)
    go_upto_region 5 with (first
      | (go_at_call 11; (with_reducible refine (CT1.out _ (HT.out.below HB2.out)).mono ?_); rintro e w3 ⟨cx, rfl, HE3, HL3, HB3⟩)
      | (refine store_cmd rfl (.tmp 9) (.tmp 36) rfl rfl w3.heap.size cx zeroC rfl rfl (heap_alloc_new w3 _) ?_; refine wpl_named fun w4 hww4 => ?_; have HS4 : Hid (Stand w4 w3.heap.size cx) := (by rw [hww4]; exact stand_of_heap (setRow_cmd cx (c0 := zeroC) (heap_alloc_new w3 _))); have HNw4 : Hid (Below w3.heap.size w3 w4) := (by rw [hww4]; exact below_setRow (below_al (Below.refl _ _) _) _ (Nat.le_refl _) _); have HB4 := Lib.hid (below2 HB2.out (below2 HB3.out HNw4.out)); have HL4 := Lib.hid (HL3.out.below HNw4.out); have HC4 := Lib.hid (HS2.out.below (below2 HB3.out HNw4.out)); clear hww4))
    apply wp_region_lit
    refine load_cmd rfl (.tmp 9) rfl w3.heap.size rfl cx HS4.out ?_
    go_wp2_with (first
      | (go_at_call 9; (with_reducible refine (CP2.out _ HE3.out _ (HT.out.below HB4.out) HL4.out).mono ?_); rintro e w5 ⟨rfl, hb5⟩; have HC5 := Lib.hid (HC4.out.below hb5); have HB5 := Lib.hid (below2 HB4.out hb5); clear hb5)
      | (go_at_call 8; (with_reducible refine (CA.out _ (HT.out.below HB5.out)).mono ?_); rintro e w6 ⟨rfl, hb6⟩; have HB6 := Lib.hid (below2 HB5.out hb6); clear hb6))
    all_goals go_ret
    all_goals exact ⟨rfl, HB6.out⟩
set_option maxRecDepth 100000 in
set_option maxHeartbeats 8000000 in
theorem back_2 (c : CmdIn) (s : ByteArray) (n : Int) (hn : 0 ≤ n ∧ n < 256) (w : World) (ht : Tab w) (hl : Lies w c) (hc0 : c.gives.length ≤ 100 ∧ c.wants.length ≤ 100 → Cok c) (hz : Clear c) (hfew : ¬ (fewB c = true ∧ ¬ (512 : Int) < (s.size : Int))) : Calls Tryd.prog 4 #[.agg c.val, .string s, .int .u8 n] w fun e w' => e = .returned (.bool true) ∧ Below w.heap.size w w' := by
  have HT := Lib.hid ht
  have HL := Lib.hid hl
  have HST := Lib.hid (stand_new (w := w) rfl c)
  have CA : Hid (∀ W, Tab W → Calls Tryd.prog 8 #[] W fun e w' => e = .returned (.bool true) ∧ Below W.heap.size W w') := fun W h => awake_any W h
  have CFEW : Hid (∀ W, Calls Tryd.prog 7 #[.agg c.val] W fun e w' => e = .returned (.bool (fewB c)) ∧ Below W.heap.size W w') := fun W => few_any c W
  clear ht hl
  have hor : fewB c = false ∨ (fewB c = true ∧ (512 : Int) < (s.size : Int)) := by
    cases h : fewB c with
    | false => exact Or.inl rfl
    | true => exact Or.inr ⟨rfl, Decidable.byContradiction fun hn => hfew ⟨h, hn⟩⟩
  clear hfew
  rcases hor with hf | ⟨hf, hlen⟩
  · rw [hf] at CFEW
    go_enter Tryd.func4, Tryd.ntmps4
    go_upto_region 1 with fail
    apply wp_region_lit
    refine load_cmd rfl (.tmp 3) rfl w.heap.size rfl c HST.out ?_
    go_wp2_with (first
      | (go_at_call 7; (with_reducible refine (CFEW.out _).mono ?_); rintro e w1 ⟨rfl, hb1⟩; have HB1 := Lib.hid (below2 (below_al (Below.refl w.heap.size w) _) hb1); clear hb1)
      | (go_at_call 8; (with_reducible refine (CA.out _ (HT.out.below HB1.out)).mono ?_); rintro e w2 ⟨rfl, hb2⟩; have HB2 := Lib.hid (below2 HB1.out hb2); clear hb2))
    all_goals go_ret
    all_goals exact ⟨rfl, HB2.out⟩
  · rw [hf] at CFEW
    have dlen : decide ((512 : Int) < (s.size : Int)) = true := decide_eq_true hlen
    go_enter Tryd.func4, Tryd.ntmps4
    go_upto_region 1 with fail
    apply wp_region_lit
    refine load_cmd rfl (.tmp 3) rfl w.heap.size rfl c HST.out ?_
    go_wp2_with (first
      | (go_at_call 7; (with_reducible refine (CFEW.out _).mono ?_); rintro e w1 ⟨rfl, hb1⟩; have HB1 := Lib.hid (below2 (below_al (Below.refl w.heap.size w) _) hb1); clear hb1)
      | (go_at_call 8; (with_reducible refine (CA.out _ (HT.out.below HB1.out)).mono ?_); rintro e w2 ⟨rfl, hb2⟩; have HB2 := Lib.hid (below2 HB1.out hb2); clear hb2))
    all_goals go_ret
    all_goals exact ⟨rfl, HB2.out⟩
theorem back_law (c : CmdIn) (s : ByteArray) (n : Int) (hn : 0 ≤ n ∧ n < 256) (w : World) (ht : Tab w) (hl : Lies w c) (hc0 : c.gives.length ≤ 100 ∧ c.wants.length ≤ 100 → Cok c) (hz : Clear c) : Calls Tryd.prog 4 #[.agg c.val, .string s, .int .u8 n] w fun e w' => e = .returned (.bool true) ∧ Below w.heap.size w w' := by
  by_cases hfew : fewB c = true ∧ ¬ (512 : Int) < (s.size : Int)
  · rcases chkV_01 c with h0 | h1
    · exact back_0 c s n hn w ht hl hc0 hz hfew h0
    · exact back_1 c s n hn w ht hl hc0 hz hfew h1
  · exact back_2 c s n hn w ht hl hc0 hz hfew
end Cmd
end Go.Proofs.YtbjlkeneeodghaaDoor
