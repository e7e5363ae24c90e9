/- The law of the kinds: the walk. -/
import Derived.Test.YtbjlkeneeodghaaDoorCmdQa
import Derived.Test.YtbjlkeneeodghaaDoorCmdT2
set_option linter.unusedSimpArgs false
set_option linter.unusedVariables false
namespace Go.Proofs.YtbjlkeneeodghaaDoor
open Go.RowKit Go.Great
namespace Cmd
open Pen (bs bs_append uintB intB I64 intS uintS doneS)
open In (Strs)
open Rec (below2 below_al below_dN Stk Stks stkVals stkVals_append stks_of_own)
/-- The command of a kind whose first so many fields are n. -/
def ck (K n : Int) (k : Nat) : CmdIn := bare K fun j => if j ∈ (fi K).take k then n else 0
theorem ck_zero (K n : Int) : Eqv (bare K fun _ => 0) (ck K n 0) := ⟨rfl, by funext j; simp [ck, bare], rfl, rfl⟩
theorem ck_set {K n : Int} {k : Nat} {c : CmdIn} (hk : k < (fi K).length) (h : Eqv c (ck K n k)) : Eqv (c.set ((fi K).getD k 0) n) (ck K n (k + 1)) := by
  refine ⟨h.kind, ?_, h.gives, h.wants⟩
  funext j
  show (if j = (fi K).getD k 0 then n else c.num j) = (if j ∈ (fi K).take (k + 1) then n else 0)
  rw [h.num]
  show (if j = (fi K).getD k 0 then n else (if j ∈ (fi K).take k then n else 0)) = _
  have e : (fi K).take (k + 1) = (fi K).take k ++ [(fi K).getD k 0] := by
    rw [List.take_add_one]
    congr 1
    rw [List.getElem?_eq_getElem hk, List.getD_eq_getElem?_getD, List.getElem?_eq_getElem hk]
    rfl
  rw [e]
  by_cases h1 : j = (fi K).getD k 0
  · rw [if_pos h1, if_pos (by rw [h1]; simp)]
  · rw [if_neg h1]
    by_cases h2 : j ∈ (fi K).take k
    · rw [if_pos h2, if_pos (by simp [h2])]
    · rw [if_neg h2, if_neg (by rw [List.mem_append, List.mem_singleton]; rintro (h | h); exact h2 h; exact h1 h)]
theorem ck_ok {K n : Int} (hK : 1 ≤ K ∧ K ≤ 25) (hn : I64 n) (k : Nat) : Cok (ck K n k) ∧ Clear (ck K n k) := by
  refine ⟨cok_few _ _ ⟨by omega, by omega⟩ fun i _ => ?_, fun i hi => ?_⟩
  · split
    · exact hn
    · unfold I64; decide
  · show (if i ∈ (fi K).take k then n else 0) = 0
    rw [if_neg fun h => by have := fi_small K i (List.mem_of_mem_take h); omega]
theorem ck_chk {K n : Int} (h0 : fn K ≠ []) : chkV (ck K n (fi K).length) = 0 := by
  refine chk_of h0 ⟨Nat.zero_le _, Nat.zero_le _, fun _ => rfl⟩ ((bads_iff _).2 fun i _ hni => ?_)
  show (if i ∈ (fi K).take (fi K).length then n else 0) = 0
  rw [List.take_length, if_neg (show ¬ i ∈ fi K from hni)]
theorem fi_pos : ∀ k, k < 25 → (fis.getD k []).length ≠ 0 := by decide +kernel
theorem fn_pos {K : Int} (hK : 1 ≤ K ∧ K ≤ 25) : 1 ≤ (fn K).length := by
  have := fi_pos (K - 1).toNat (by omega)
  unfold fn
  rw [List.length_map, fi_in hK]
  omega
theorem kind_name {K : Int} (hK : 1 ≤ K ∧ K ≤ 25) : kindOf (nameOf K) = K := by
  obtain ⟨m, hm⟩ : ∃ m : Nat, K = (m : Int) + 1 := ⟨(K - 1).toNat, by omega⟩
  have h : ∀ m : Nat, m < 25 → kindOf (nameOf ((m : Int) + 1)) = (m : Int) + 1 := by decide +kernel
  rw [hm]
  exact h m (by omega)
theorem cok_eqv' {a b : CmdIn} (h : Eqv a b) (hb : Cok b) : Cok a := ⟨by rw [h.kind]; exact hb.kind, by rw [h.num]; exact hb.num, by rw [h.gives]; exact hb.gives, by rw [h.wants]; exact hb.wants, by rw [h.gives, h.wants]; exact hb.few⟩
theorem fi_dist : ∀ k, k < 25 → ∀ j, j < (fis.getD k []).length → ∀ q, q < j → (fis.getD k []).getD j 0 ≠ (fis.getD k []).getD q 0 := by decide +kernel
theorem lies_ck {K n : Int} {k : Nat} {c : CmdIn} (h : Eqv c (ck K n k)) (W : World) : Lies W c := by
  have g1 : c.gives = [] := h.gives
  have g2 : c.wants = [] := h.wants
  refine ⟨?_, ?_⟩
  · rw [g1]
    exact fun i hi => by simp at hi
  · rw [g2]
    exact fun i hi => by simp at hi
theorem few_ck {K n : Int} {k : Nat} {c : CmdIn} (h : Eqv c (ck K n k)) : c.gives.length ≤ 100 ∧ c.wants.length ≤ 100 := by
  have g1 : c.gives = [] := h.gives
  have g2 : c.wants = [] := h.wants
  rw [g1, g2]
  exact ⟨Nat.zero_le _, Nat.zero_le _⟩
theorem put_ck {K n : Int} (hK : 1 ≤ K ∧ K ≤ 25) (hn : I64 n) {c : CmdIn} (h : Eqv c (ck K n (fi K).length)) (W : World) (ht : Tab W) : Calls Tryd.prog 9 #[.agg c.val] W fun e w' => e = .returned (.tuple #[.string (bs (cmdB (ck K n (fi K).length))), .int .i64 0]) ∧ Below W.heap.size W w' := by
  have h1 := put_any c W ht (lies_ck h W) (cok_eqv' h (ck_ok hK hn _).1)
  rw [putV_eqv h] at h1
  have h0 : fn K ≠ [] := by
    intro e
    have := fn_pos hK
    rw [e] at this
    simp at this
  unfold putV at h1
  rw [if_pos (ck_chk h0)] at h1
  exact h1
theorem take_ck {K n : Int} (hK : 1 ≤ K ∧ K ≤ 25) (hn : I64 n) (W : World) (hW : Tab W) : Calls Tryd.prog 11 #[.string (bs (cmdB (ck K n (fi K).length)))] W fun e w' => ∃ c', e = .returned (.tuple #[.agg c'.val, .int .i64 0]) ∧ Hid (Eqv c' (ck K n (fi K).length)) ∧ Hid (Below W.heap.size W w') := by
  have h0 : fn K ≠ [] := by
    intro e
    have := fn_pos hK
    rw [e] at this
    simp at this
  obtain ⟨A0, A1⟩ := cmdB_len _ (ck_ok hK hn (fi K).length).1 (ck_chk h0)
  refine (take_any (bs (cmdB (ck K n (fi K).length))) (by rw [Pen.bs_size]; omega) W hW).mono ?_
  rintro e w' ⟨c', e1, h2, h3, h4⟩
  have ht := take_put _ (ck_ok hK hn (fi K).length).1 (ck_ok hK hn (fi K).length).2 (ck_chk h0)
  exact ⟨c', by rw [e1]; show _ = Ending.returned (.tuple #[.agg c'.val, .int .i64 0]); rw [← ht.2]; rfl, Eqv.trans h2 ht.1, h4⟩
set_option maxRecDepth 100000 in
set_option maxHeartbeats 4000000 in
theorem kinds_law (v n : Int) (hv : 0 ≤ v ∧ v < 256) (hn : I64 n) (w : World) (ht : Tab w) : Calls Tryd.prog 6 #[.int .u8 v, .int .i64 n] w fun e w' => e = .returned (.bool true) ∧ Below w.heap.size w w' := by
  have HT := Lib.hid ht
  have CA : Hid (∀ W, Tab W → Calls Tryd.prog 8 #[] W fun e w' => e = .returned (.bool true) ∧ Below W.heap.size W w') := fun W h => awake_any W h
  obtain ⟨q, hq⟩ : ∃ q : Int, Int.tmod v 25 = q := ⟨_, rfl⟩
  have hq2 : 0 ≤ q ∧ q < 25 := by rw [← hq, Int.tmod_eq_emod_of_nonneg hv.1]; omega
  obtain ⟨hv0, hv1⟩ := hv
  obtain ⟨K, hK⟩ : ∃ K, 1 + q = K := ⟨_, rfl⟩
  have hK2 : 1 ≤ K ∧ K ≤ 25 := by omega
  have hqm : v % 25 = q := by rw [← hq, Int.tmod_eq_emod_of_nonneg hv0]
  obtain ⟨m, hm⟩ : ∃ m, (fn K).length = m := ⟨_, rfl⟩
  have HFM : Hid ((fi K).length = m) := by show _ = _; rw [← hm]; unfold fn; rw [List.length_map]
  have HMP : Hid (1 ≤ m) := by show _ ≤ _; rw [← hm]; exact fn_pos hK2
  have HM1 : Hid (m ≤ 100) := by show _ ≤ _; rw [← HFM.out]; have := fi_len K; omega
  have CF : Hid (∀ W, Tab W → Calls Tryd.prog 21 #[.int .i64 K] W (Gives (fn K) W)) := fun W h => fields_any K W h
  have CNM : Hid (∀ W, Calls Tryd.prog 23 #[.int .i64 K] W fun e w' => e = .returned (.string (nameOf K)) ∧ Below W.heap.size W w') := fun W => name_any K W
  have CKD : Hid (∀ W, Calls Tryd.prog 25 #[.string (nameOf K)] W fun e w' => e = .returned (.int .i64 K) ∧ Below W.heap.size W w') := fun W => by have := kind_any (nameOf K) W; rw [kind_name hK2] at this; exact this
  obtain ⟨C, hC⟩ : ∃ C : Nat → CmdIn, Hid (∀ k, ck K n k = C k) := ⟨ck K n, fun _ => rfl⟩
  obtain ⟨IX, hIX⟩ : ∃ IX : Nat → Nat, Hid (∀ j, (fi K).getD j 0 = IX j) := ⟨fun j => (fi K).getD j 0, fun _ => rfl⟩
  obtain ⟨TS, hTS⟩ : ∃ TS, Hid (bs (cmdB (ck K n (fi K).length)) = TS) := ⟨_, rfl⟩
  have CP : Hid (∀ c, Eqv c (C m) → ∀ W, Tab W → Calls Tryd.prog 9 #[.agg c.val] W fun e w' => e = .returned (.tuple #[.string TS, .int .i64 0]) ∧ Below W.heap.size W w') := fun c hc W hW => by rw [← hTS.out]; exact put_ck hK2 hn (by rw [hC.out, HFM.out]; exact hc) W hW
  have CT : Hid (∀ W, Tab W → Calls Tryd.prog 11 #[.string TS] W fun e w' => ∃ c', e = .returned (.tuple #[.agg c'.val, .int .i64 0]) ∧ Hid (Eqv c' (C m)) ∧ Hid (Below W.heap.size W w')) := fun W hW => by rw [← hTS.out, ← HFM.out, ← hC.out]; exact take_ck hK2 hn W hW
  have CSET : Hid (∀ k c, Eqv c (C k) → k < m → ∀ W, Calls Tryd.prog 18 #[.agg c.val, .string (nm (IX k)), .int .i64 n] W fun e w' => ∃ c', e = .returned (.tuple #[.agg c'.val, .bool true]) ∧ Hid (Eqv c' (C (k + 1))) ∧ Hid (c'.num (IX k) = n) ∧ Hid (Below W.heap.size W w')) := fun k c hc hk W => by
    rw [← hC.out] at hc
    have hi19 := (fn_get K k (by rw [HFM.out]; exact hk)).2
    rw [hIX.out] at hi19
    have hp : place (nm (IX k)) = some (IX k) := place_nm hi19
    refine (set_any c (nm (IX k)) n W (lies_ck hc W) (few_ck hc)).mono ?_
    rintro e w' ⟨c', e1, h2, h3, h4⟩
    have e2 : setV c (nm (IX k)) n = c.set (IX k) n := by unfold setV; rw [hp]
    rw [e2] at h2
    rw [hp] at e1
    have h5 := ck_set (k := k) (by rw [HFM.out]; exact hk) hc
    rw [hIX.out] at h5
    refine ⟨c', e1, ?_, ?_, h4⟩
    · show Eqv _ _
      rw [← hC.out]
      exact Eqv.trans h2 h5
    · show _ = _
      rw [h2.out.num]
      show (if IX k = IX k then n else _) = n
      rw [if_pos rfl]
  have CGET : Hid (∀ k (c : CmdIn), c.num (IX k) = n → k < m → ∀ W, Calls Tryd.prog 16 #[.agg c.val, .string (nm (IX k))] W fun e w' => e = .returned (.tuple #[.int .i64 n, .bool true]) ∧ Below W.heap.size W w') := fun k c hc hk W => by
    have hi19 := (fn_get K k (by rw [HFM.out]; exact hk)).2
    rw [hIX.out] at hi19
    have h := get_any c (nm (IX k)) W
    have e2 : getV c (nm (IX k)) = (c.num (IX k), true) := by unfold getV; rw [place_nm hi19]
    rw [e2, hc] at h
    exact h
  have CSM : Hid (∀ ca cb, Eqv ca (C m) → Eqv cb (C m) → ∀ W, Calls Tryd.prog 13 #[.agg ca.val, .agg cb.val] W fun e w' => e = .returned (.bool true) ∧ Below W.heap.size W w') := fun ca cb ha hb W => by
    rw [← hC.out] at ha hb
    exact sameC_any ca cb W (ha.trans hb.symm) (lies_ck ha W) (lies_ck hb W) (few_ck ha)
  have HNE : Hid (∀ j, j < m → ∀ q, q < j → nm (IX j) ≠ nm (IX q)) := fun j hj q hqj e => by
    have h1 := (fn_get K j (by rw [HFM.out]; exact hj)).2
    have h2 := (fn_get K q (by rw [HFM.out]; omega)).2
    rw [hIX.out] at h1 h2
    have h3 := nm_inj h1 h2 e
    have hl : j < (fis.getD (K - 1).toNat []).length := by have := HFM.out; rw [fi_in hK2] at this; omega
    have h4 := fi_dist (K - 1).toNat (by omega) j hl q hqj
    rw [← fi_in hK2, hIX.out, hIX.out] at h4
    exact h4 h3
  have HGN : Hid (∀ j, j < m → (fn K).getD j ByteArray.empty = nm (IX j)) := fun j hj => by rw [← hIX.out]; exact (fn_get K j (by rw [HFM.out]; exact hj)).1
  have HC0 : Hid (Eqv (bare K fun _ => 0) (C 0)) := by show Eqv _ _; rw [← hC.out]; exact ck_zero K n
  have hKb : (K != K) = false := by simp
  have hm0 := HMP.out
  have hm1 : ¬ ((m : Int) < 1) := by omega
  have dm1 : decide ((m : Int) < 1) = false := decide_eq_false hm1
  have hm100 := HM1.out
  clear hm0
  go_enter Tryd.func6, Tryd.ntmps6
  go_upto_region 3 with (go_at_call 21; (with_reducible refine (CF.out _ HT.out).mono ?_); rintro e w1 ⟨a1, k1, rfl, HF1, HB1, HFR1⟩; rw [hm])
  obtain ⟨b, off, rfl, hb1, -⟩ := HF1.out 0 (by rw [hm]; exact HMP.out)
  have hfar : w.heap.size ≤ b := HFR1.out _ rfl
  have HCK1 : Hid (∀ W, Below w1.heap.size w1 W → ∀ j, j < m → W.cell? ⟨b, off + j, none⟩ = some (.string (nm (IX j)))) := fun W hW j hj => by
    obtain ⟨b2, off2, e2, hb2, hc2⟩ := (Strs.below HF1.out hW) j (by rw [hm]; exact hj)
    cases e2
    rw [HGN.out j hj] at hc2
    exact hc2
  clear HF1 HFR1 HGN
  go_upto_region 5 with (first
    | (go_at_call 23; (with_reducible refine (CNM.out _).mono ?_); rintro e w2 ⟨rfl, hb2⟩; have HB2 := Lib.hid hb2; clear hb2)
    | (go_at_call 25; (with_reducible refine (CKD.out _).mono ?_); rintro e w3 ⟨rfl, hb3⟩; have HB3 := Lib.hid hb3; clear hb3))
  have HW3 : Hid (Below w.heap.size w w3) := below2 HB1.out (below2 HB2.out HB3.out)
  have HB13 : Hid (Below w1.heap.size w1 w3) := below2 HB2.out HB3.out
  have hz3 : w1.heap.size ≤ w3.heap.size := HB13.out.size
  clear HB1 HB2 HB3
  go_upto_region 6 with (first
    | (refine wpList_buildTo rfl 24 _ rfl (some 35) rfl (bare K fun _ => 0).val (by as_aux_lemma => kernel_rfl) ?_)
    | (refine store_cmd rfl (.tmp 7) (.tmp 35) rfl rfl w3.heap.size (bare K fun _ => 0) zeroC rfl rfl (heap_alloc_new w3 _) ?_))
  refine wp_named fun W0 hW0 => ?_
  have HS0 : Hid (Stand W0 w3.heap.size (bare K fun _ => 0)) := by rw [hW0]; exact stand_of_heap (setRow_cmd _ (c0 := zeroC) (heap_alloc_new w3 _))
  have HB0 : Hid (Below w3.heap.size w3 W0) := by rw [hW0]; exact below_setRow (below_al (Below.refl _ _) _) _ (Nat.le_refl _) _
  clear hW0
  have HCK : Hid (∀ W, Below w3.heap.size w3 W → ∀ j, j < m → W.cell? ⟨b, off + j, none⟩ = some (.string (nm (IX j)))) := fun W hW j hj => HCK1.out W (HB13.out.trans (hW.mono hz3)) j hj
  have hb7 : b < w3.heap.size := Nat.lt_of_lt_of_le hb1 hz3
  clear HCK1 HB13
  go_wp2
  obtain ⟨g7, hg7⟩ : ∃ g, w3.heap.size = g := ⟨_, rfl⟩
  rw [hg7] at HS0 ⊢
  go_loopw [8] (fun v8 wr => ∃ (k : Nat) (c : CmdIn), k ≤ m ∧ v8 = .int .i64 k ∧ Hid (Stand wr g7 c) ∧ Hid (Eqv c (C k)) ∧ Hid (Below w3.heap.size w3 wr)) (fun v8 _ => m - (intOf v8).toNat)
  case atStart => exact ⟨0, _, by omega, rfl, HS0, HC0, HB0⟩
  case round =>
    obtain ⟨k, c, hk, rfl, HSc, HEc, HBr⟩ := hrel
    by_cases hlt : k < m
    · have hlt1 : (k : Int) < (m : Int) := by omega
      have d1 : decide ((k : Int) < (m : Int)) = true := decide_eq_true hlt1
      have hk0 : (0 : Int) ≤ k := by omega
      obtain ⟨wo, rfl⟩ : ∃ wo : World, wo = wr := ⟨_, rfl⟩
      go_upto_region 9 with fail
      go_wp2
      go_loopw [9] (fun v9 wx => ∃ q : Nat, q ≤ k ∧ v9 = .int .i64 q ∧ Hid (Below wo.heap.size wo wx)) (fun v9 _ => k - (intOf v9).toNat)
      case atStart => exact ⟨0, by omega, rfl, Below.refl _ _⟩
      case round =>
        obtain ⟨q, hq, rfl, HBx⟩ := hrel
        by_cases hqk : q < k
        · have hqk1 : (q : Int) < (k : Int) := by omega
          have d2 : decide ((q : Int) < (k : Int)) = true := decide_eq_true hqk1
          have hq0 : (0 : Int) ≤ q := by omega
          have hqm1 : (q : Int) < (m : Int) := by omega
          have hB3 := HBr.out.trans (HBx.out.mono HBr.out.size)
          have cq := HCK.out _ hB3 q (by omega)
          have ck := HCK.out _ hB3 k hlt
          have ne := beq_no (HNE.out k hlt q hqk)
          clear hB3
          generalize nm (IX q) = Y at *
          generalize nm (IX k) = X at *
          go_upto_region 12 with fail
          go_quiet (fail)
          go_wp2
          go_roundw
          case rel => exact ⟨q + 1, by omega, by go_num, below_dN HBx.out _⟩
          case measure => simp [intOf]; omega
        · have hqe : q = k := by omega
          have n2 : ¬ (q : Int) < (k : Int) := by omega
          have d2 : decide ((q : Int) < (k : Int)) = false := decide_eq_false n2
          have HSx := Lib.hid (HSc.out.below HBx.out)
          have HBw : Hid (Below w3.heap.size w3 wr) := HBr.out.trans (HBx.out.mono HBr.out.size)
          have hszw : w3.heap.size ≤ wr.heap.size := HBw.out.size
          have ck := HCK.out _ HBw.out k hlt
          have CSETk : Hid (∀ W, Calls Tryd.prog 18 #[.agg c.val, .string (nm (IX k)), .int .i64 n] W fun e w' => ∃ c', e = .returned (.tuple #[.agg c'.val, .bool true]) ∧ Hid (Eqv c' (C (k + 1))) ∧ Hid (c'.num (IX k) = n) ∧ Hid (Below W.heap.size W w')) := fun W => CSET.out k c HEc.out hlt W
          have CGETk : Hid (∀ (c : CmdIn), c.num (IX k) = n → ∀ W, Calls Tryd.prog 16 #[.agg c.val, .string (nm (IX k))] W fun e w' => e = .returned (.tuple #[.int .i64 n, .bool true]) ∧ Below W.heap.size W w') := fun c hc W => CGET.out k c hc hlt W
          have hgx : g7 < wr.heap.size := World.rowIs.lt HSx.out
          have hgle : w3.heap.size ≤ g7 := by omega
          clear HSc HBr HBx
          generalize nm (IX k) = X at *
          go_upto_region 14 with fail
          have hsW : Stand wr.drew g7 c ∧ wr.drew.cell? ⟨b, off + k, none⟩ = some (.string X) := ⟨World.rowIs.drew HSx.out, ck⟩
          have BW : Hid (Below w3.heap.size w3 wr.drew) := below_dN HBw.out 1
          have hzW : w3.heap.size ≤ wr.drew.heap.size := hszw
          refine Ord.wp_region_U (fun W' => Stand W' g7 c ∧ W'.cell? ⟨b, off + k, none⟩ = some (.string X)) [] (by kernel_rfl) ?_
          have hHeld := hsW
          refine Ord.wpAnyU_take (i := 0) (v := .agg c.val) rfl (by kernel_rfl) (by kernel_rfl) (by kernel_rfl) (by kernel_rfl) (by kernel_rfl) (by kernel_rfl) (by kernel_rfl) (fun _ _ _ h => h) (Or.inl ⟨by rfl, ?_⟩) hHeld ?_
          · exact fun W2 hS2 => run_load_cmd (.tmp 7) rfl rfl hS2.1
          try simp only [Act.put, List.setIfInBounds_toArray, List.set_cons_zero, List.set_cons_succ]
          refine Ord.wpAnyU_take (i := 1) (v := ?_) rfl (by kernel_rfl) (by kernel_rfl) (by kernel_rfl) (by kernel_rfl) (by kernel_rfl) (by kernel_rfl) (by kernel_rfl) (fun _ _ _ h => h) (Or.inl ⟨by rfl, ?_⟩) hHeld ?_
          rotate_left
          · intro w hSw; (try dsimp only at hSw); go_simp; (try with_reducible rfl)
          try simp only [Act.put, List.setIfInBounds_toArray, List.set_cons_zero, List.set_cons_succ]
          refine Ord.wpAnyU_take (i := 2) (v := ?_) rfl (by kernel_rfl) (by kernel_rfl) (by kernel_rfl) (by kernel_rfl) (by kernel_rfl) (by kernel_rfl) (by kernel_rfl) (fun _ _ _ h => h) (Or.inl ⟨by rfl, ?_⟩) hHeld ?_
          rotate_left
          · intro w hSw; (try dsimp only at hSw); go_simp; (try with_reducible rfl)
          try simp only [Act.put, List.setIfInBounds_toArray, List.set_cons_zero, List.set_cons_succ]
          refine Ord.wpAnyU_take (i := 3) (v := ?_) rfl (by kernel_rfl) (by kernel_rfl) (by kernel_rfl) (by kernel_rfl) (by kernel_rfl) (by kernel_rfl) (by kernel_rfl) (fun _ _ _ h => h) (Or.inl ⟨by rfl, ?_⟩) hHeld ?_
          rotate_left
          · intro w hSw; (try dsimp only at hSw); go_simp; (try with_reducible rfl)
          try simp only [Act.put, List.setIfInBounds_toArray, List.set_cons_zero, List.set_cons_succ]
          refine Ord.wpAnyU_take (i := 4) (v := ?_) rfl (by kernel_rfl) (by kernel_rfl) (by kernel_rfl) (by kernel_rfl) (by kernel_rfl) (by kernel_rfl) (by kernel_rfl) (fun _ _ _ h => h) (Or.inl ⟨by rfl, ?_⟩) hHeld ?_
          rotate_left
          · intro w hSw; (try dsimp only at hSw); go_simp; (try with_reducible rfl)
          try simp only [Act.put, List.setIfInBounds_toArray, List.set_cons_zero, List.set_cons_succ]
          refine Ord.wpAnyU_take (i := 5) (v := ?_) rfl (by kernel_rfl) (by kernel_rfl) (by kernel_rfl) (by kernel_rfl) (by kernel_rfl) (by kernel_rfl) (by kernel_rfl) (fun _ _ _ h => h) (Or.inl ⟨by rfl, ?_⟩) hHeld ?_
          rotate_left
          · intro w hSw; (try dsimp only at hSw); go_simp; (try with_reducible rfl)
          try simp only [Act.put, List.setIfInBounds_toArray, List.set_cons_zero, List.set_cons_succ]
          refine Ord.wpAnyU_two (i := 6) (j := 10) (by kernel_rfl) rfl rfl (fun K hK => ?_) (fun K hK => ?_)
          · go_simp
            go_wp2_with (go_at_call 18; (with_reducible refine (CSETk.out _).mono ?_); rintro e w6 ⟨c', rfl, HE6, HN6, HB6⟩)
            have hsw6 : _ ∧ _ := ⟨Stand.below hsW.1 HB6.out, (HB6.out.cell (p := ⟨b, off + k, none⟩) (Nat.lt_of_lt_of_le hb7 hzW)).trans hsW.2⟩
            have hzw6 : w3.heap.size ≤ w6.heap.size := Nat.le_trans hzW HB6.out.size
            have Bw6 : Hid (Below w3.heap.size w3 w6) := BW.out.trans (HB6.out.mono hzW)
            refine hK.out _ _ (fun _ => hsw6) ?_
            clear hK K
            try simp only [Act.put, List.setIfInBounds_toArray, List.set_cons_zero, List.set_cons_succ]
            have hHeld := hsw6
            refine Ord.wpAnyU_take (i := 7) (v := ?_) rfl (by kernel_rfl) (by kernel_rfl) (by kernel_rfl) (by kernel_rfl) (by kernel_rfl) (by kernel_rfl) (by kernel_rfl) (fun _ _ _ h => h) (Or.inl ⟨by rfl, ?_⟩) hHeld ?_
            rotate_left
            · intro w hSw; (try dsimp only at hSw); go_simp; (try with_reducible rfl)
            try simp only [Act.put, List.setIfInBounds_toArray, List.set_cons_zero, List.set_cons_succ]
            refine Ord.wpAnyU_take (i := 8) (v := ?_) rfl (by kernel_rfl) (by kernel_rfl) (by kernel_rfl) (by kernel_rfl) (by kernel_rfl) (by kernel_rfl) (by kernel_rfl) (fun _ _ _ h => h) (Or.inl ⟨by rfl, ?_⟩) hHeld ?_
            rotate_left
            · intro w hSw; (try dsimp only at hSw); go_simp; (try with_reducible rfl)
            try simp only [Act.put, List.setIfInBounds_toArray, List.set_cons_zero, List.set_cons_succ]
            refine Ord.wpAnyU_take (i := 9) (v := ?_) rfl (by kernel_rfl) (by kernel_rfl) (by kernel_rfl) (by kernel_rfl) (by kernel_rfl) (by kernel_rfl) (by kernel_rfl) (fun _ _ _ h => h) (Or.inl ⟨by rfl, ?_⟩) hHeld ?_
            rotate_left
            · intro w hSw; (try dsimp only at hSw); go_simp; (try with_reducible rfl)
            try simp only [Act.put, List.setIfInBounds_toArray, List.set_cons_zero, List.set_cons_succ]
            refine Ord.wpAnyU_one (i := 10) (by kernel_rfl) rfl (fun K hK => ?_)
            go_simp
            have hswA : _ ∧ _ := ⟨Stand.below hsw6.1 (below_al (Below.refl w6.heap.size w6) (.cells zeroC.val 24)), ((below_al (Below.refl w6.heap.size w6) (.cells zeroC.val 24)).cell (p := ⟨b, off + k, none⟩) (Nat.lt_of_lt_of_le hb7 hzw6)).trans hsw6.2⟩
            refine hK.out _ _ (fun _ => hswA) ?_
            clear hK K
            try simp only [Act.put, List.setIfInBounds_toArray, List.set_cons_zero, List.set_cons_succ]
            refine wpAnyU_named fun wA hwA => ?_
            have hA : wA = (w6.alloc (.cells zeroC.val 24)) := hwA
            clear hwA
            have BwA : Hid (Below w3.heap.size w3 (w6.alloc (.cells zeroC.val 24))) := below_al Bw6.out (.cells zeroC.val 24)
            have hzwA : w3.heap.size ≤ (w6.alloc (.cells zeroC.val 24)).heap.size := Nat.le_trans hzw6 (below_al (Below.refl w6.heap.size w6) (.cells zeroC.val 24)).size
            have ZwA := Lib.hid (heap_alloc_new w6 (.cells zeroC.val 24))
            have hg10 : g7 < w6.heap.size := World.rowIs.lt hsw6.1
            rw [← hA] at hswA BwA hzwA ZwA
            clear hA
            generalize w6.heap.size = g10 at *
            refine Ord.wpAnyU_one (i := 11) (by kernel_rfl) rfl (fun K hK => ?_)
            rw [if_pos (by rfl)]
            refine one_store_cmd (.tmp 10) (.tmp 64) rfl rfl g10 c' zeroC rfl rfl ZwA.out ?_
            refine hK.out _ _ (fun _ => ⟨Stand.setRow_other hswA.1 (by omega) _, cell_setRow_other hswA.2 (show b ≠ g10 by omega) _⟩) ?_
            clear hK K
            try simp only [Act.put, List.setIfInBounds_toArray, List.set_cons_zero, List.set_cons_succ]
            refine Ord.wpAnyU_one (i := 12) (by kernel_rfl) rfl (fun K hK => ?_)
            go_simp
            refine hK.out _ _ (fun _ => ⟨Stand.setRow_other hswA.1 (by omega) _, cell_setRow_other hswA.2 (show b ≠ g10 by omega) _⟩) ?_
            clear hK K
            try simp only [Act.put, List.setIfInBounds_toArray, List.set_cons_zero, List.set_cons_succ]
            refine Ord.wpAnyU_done (by kernel_rfl) ?_ _
            have HS8 : Hid (Stand (wA.setRow g10 c'.val) g10 c') := stand_of_heap (setRow_cmd c' (c0 := zeroC) ZwA.out)
            have HSc8 : Hid (Stand (wA.setRow g10 c'.val) g7 c) := Stand.setRow_other hswA.1 (by omega) _
            have HB8 : Hid (Below w3.heap.size w3 (wA.setRow g10 c'.val)) := below_setRow BwA.out g10 (by omega) _
            have hc8 : (wA.setRow g10 c'.val).cell? ⟨b, off + k, none⟩ = some (.string X) := cell_setRow_other hswA.2 (show b ≠ g10 by omega) _
            have hz8 : w3.heap.size ≤ (wA.setRow g10 c'.val).heap.size := by rw [setRow_size]; exact hzwA
            generalize wA.setRow g10 c'.val = w8 at *
            go_upto_region 15 with fail
            have hH0 : Stand w8.drew g10 c' ∧ w8.drew.cell? ⟨b, off + k, none⟩ = some (.string X) := ⟨World.rowIs.drew HS8.out, hc8⟩
            refine Ord.wp_region_U (fun W' => Stand W' g10 c' ∧ W'.cell? ⟨b, off + k, none⟩ = some (.string X)) [] (by kernel_rfl) ?_
            have hHeld := hH0
            refine Ord.wpAnyU_take (i := 0) (v := .agg c'.val) rfl (by kernel_rfl) (by kernel_rfl) (by kernel_rfl) (by kernel_rfl) (by kernel_rfl) (by kernel_rfl) (by kernel_rfl) (fun _ _ _ h => h) (Or.inl ⟨by rfl, ?_⟩) hHeld ?_
            · exact fun W2 hS2 => run_load_cmd (.tmp 10) rfl rfl hS2.1
            try simp only [Act.put, List.setIfInBounds_toArray, List.set_cons_zero, List.set_cons_succ]
            refine Ord.wpAnyU_take (i := 1) (v := ?_) rfl (by kernel_rfl) (by kernel_rfl) (by kernel_rfl) (by kernel_rfl) (by kernel_rfl) (by kernel_rfl) (by kernel_rfl) (fun _ _ _ h => h) (Or.inl ⟨by rfl, ?_⟩) hHeld ?_
            rotate_left
            · intro w hSw; (try dsimp only at hSw); go_simp; (try with_reducible rfl)
            try simp only [Act.put, List.setIfInBounds_toArray, List.set_cons_zero, List.set_cons_succ]
            refine Ord.wpAnyU_take (i := 2) (v := ?_) rfl (by kernel_rfl) (by kernel_rfl) (by kernel_rfl) (by kernel_rfl) (by kernel_rfl) (by kernel_rfl) (by kernel_rfl) (fun _ _ _ h => h) (Or.inl ⟨by rfl, ?_⟩) hHeld ?_
            rotate_left
            · intro w hSw; (try dsimp only at hSw); go_simp; (try with_reducible rfl)
            try simp only [Act.put, List.setIfInBounds_toArray, List.set_cons_zero, List.set_cons_succ]
            refine Ord.wpAnyU_take (i := 3) (v := ?_) rfl (by kernel_rfl) (by kernel_rfl) (by kernel_rfl) (by kernel_rfl) (by kernel_rfl) (by kernel_rfl) (by kernel_rfl) (fun _ _ _ h => h) (Or.inl ⟨by rfl, ?_⟩) hHeld ?_
            rotate_left
            · intro w hSw; (try dsimp only at hSw); go_simp; (try with_reducible rfl)
            try simp only [Act.put, List.setIfInBounds_toArray, List.set_cons_zero, List.set_cons_succ]
            refine Ord.wpAnyU_take (i := 4) (v := ?_) rfl (by kernel_rfl) (by kernel_rfl) (by kernel_rfl) (by kernel_rfl) (by kernel_rfl) (by kernel_rfl) (by kernel_rfl) (fun _ _ _ h => h) (Or.inl ⟨by rfl, ?_⟩) hHeld ?_
            rotate_left
            · intro w hSw; (try dsimp only at hSw); go_simp; (try with_reducible rfl)
            try simp only [Act.put, List.setIfInBounds_toArray, List.set_cons_zero, List.set_cons_succ]
            refine Ord.wpAnyU_one (i := 5) (by kernel_rfl) rfl (fun K hK => ?_)
            go_simp
            go_wp2_with ((go_at_call 16; (with_reducible refine (CGETk.out c' HN6.out _).mono ?_); rintro e w9 ⟨rfl, hb9⟩; have HB9 := Lib.hid hb9; clear hb9; have hs9 : _ ∧ _ := ⟨Stand.below hH0.1 HB9.out, (HB9.out.cell (p := ⟨b, off + k, none⟩) (Nat.lt_of_lt_of_le hb7 hz8)).trans hH0.2⟩))
            refine hK.out _ _ (fun _ => hs9) ?_
            clear hK K
            try simp only [Act.put, List.setIfInBounds_toArray, List.set_cons_zero, List.set_cons_succ]
            refine Ord.wpAnyU_one (i := 6) (by kernel_rfl) rfl (fun K hK => ?_)
            go_simp
            refine hK.out _ _ (fun _ => hs9) ?_
            clear hK K
            try simp only [Act.put, List.setIfInBounds_toArray, List.set_cons_zero, List.set_cons_succ]
            have hHeld := hs9
            refine Ord.wpAnyU_take (i := 7) (v := ?_) rfl (by kernel_rfl) (by kernel_rfl) (by kernel_rfl) (by kernel_rfl) (by kernel_rfl) (by kernel_rfl) (by kernel_rfl) (fun _ _ _ h => h) (Or.inl ⟨by rfl, ?_⟩) hHeld ?_
            rotate_left
            · intro w hSw; (try dsimp only at hSw); go_simp; (try with_reducible rfl)
            try simp only [Act.put, List.setIfInBounds_toArray, List.set_cons_zero, List.set_cons_succ]
            have hHeld := hs9
            refine Ord.wpAnyU_take (i := 8) (v := ?_) rfl (by kernel_rfl) (by kernel_rfl) (by kernel_rfl) (by kernel_rfl) (by kernel_rfl) (by kernel_rfl) (by kernel_rfl) (fun _ _ _ h => h) (Or.inl ⟨by rfl, ?_⟩) hHeld ?_
            rotate_left
            · intro w hSw; (try dsimp only at hSw); go_simp; (try with_reducible rfl)
            try simp only [Act.put, List.setIfInBounds_toArray, List.set_cons_zero, List.set_cons_succ]
            refine Ord.wpAnyU_one (i := 9) (by kernel_rfl) rfl (fun K hK => ?_)
            go_simp
            refine hK.out _ _ (fun _ => hs9) ?_
            clear hK K
            try simp only [Act.put, List.setIfInBounds_toArray, List.set_cons_zero, List.set_cons_succ]
            refine Ord.wpAnyU_one (i := 10) (by kernel_rfl) rfl (fun K hK => ?_)
            go_simp
            refine hK.out _ _ (fun _ => hs9) ?_
            clear hK K
            try simp only [Act.put, List.setIfInBounds_toArray, List.set_cons_zero, List.set_cons_succ]
            refine Ord.wpAnyU_done (by kernel_rfl) ?_ _
            have HS9 := Lib.hid hs9.1
            have HSc9 : Hid (Stand w9 g7 c) := Stand.below (World.rowIs.drew HSc8.out) HB9.out
            have HBB9 : Hid (Below w3.heap.size w3 w9) := (below_dN HB8.out 1).trans (HB9.out.mono hz8)
            clear hs9 hH0 hc8 HB9
            go_upto_region 18 with fail
            apply wp_region_lit
            refine load_cmd rfl (.tmp 10) rfl g10 rfl c' HS9.out ?_
            refine store_cmd rfl (.tmp 7) (.tmp 86) rfl rfl g7 c' c rfl rfl HSc9.out.heap ?_
            refine wpl_named fun w10 hw10 => ?_
            have HS10 : Hid (Stand w10 g7 c') := by rw [hw10]; exact stand_of_heap (setRow_cmd c' HSc9.out.heap)
            have HB10 : Hid (Below w3.heap.size w3 w10) := by rw [hw10]; exact below_setRow HBB9.out g7 hgle _
            clear hw10
            go_wp2
            go_roundw
            case rel => exact ⟨k + 1, c', by omega, by go_num, HS10, HE6, HB10⟩
            case measure => simp [intOf]; omega
          · go_simp
            have hswA : _ ∧ _ := ⟨Stand.below hsW.1 (below_al (Below.refl wr.drew.heap.size wr.drew) (.cells zeroC.val 24)), ((below_al (Below.refl wr.drew.heap.size wr.drew) (.cells zeroC.val 24)).cell (p := ⟨b, off + k, none⟩) (Nat.lt_of_lt_of_le hb7 hzW)).trans hsW.2⟩
            refine hK.out _ _ (fun _ => hswA) ?_
            clear hK K
            try simp only [Act.put, List.setIfInBounds_toArray, List.set_cons_zero, List.set_cons_succ]
            refine wpAnyU_named fun wA hwA => ?_
            have hA : wA = (wr.drew.alloc (.cells zeroC.val 24)) := hwA
            clear hwA
            have BwA : Hid (Below w3.heap.size w3 (wr.drew.alloc (.cells zeroC.val 24))) := below_al BW.out (.cells zeroC.val 24)
            have hzwA : w3.heap.size ≤ (wr.drew.alloc (.cells zeroC.val 24)).heap.size := Nat.le_trans hzW (below_al (Below.refl wr.drew.heap.size wr.drew) (.cells zeroC.val 24)).size
            have ZwA := Lib.hid (heap_alloc_new wr.drew (.cells zeroC.val 24))
            have hg10 : g7 < wr.drew.heap.size := World.rowIs.lt hsW.1
            rw [← hA] at hswA BwA hzwA ZwA
            clear hA
            (replace ZwA : Hid (wA.heap[wr.heap.size]? = some (.cells zeroC.val 24 (0, 0))) := ZwA); (replace hg10 : g7 < wr.heap.size := hg10); generalize wr.heap.size = g10 at *
            refine Ord.wpAnyU_one (i := 6) (by kernel_rfl) rfl (fun K hK => ?_)
            go_simp
            go_wp2_with (go_at_call 18; (with_reducible refine (CSETk.out _).mono ?_); rintro e w6 ⟨c', rfl, HE6, HN6, HB6⟩)
            have hsw6 : _ ∧ _ := ⟨Stand.below hswA.1 HB6.out, (HB6.out.cell (p := ⟨b, off + k, none⟩) (Nat.lt_of_lt_of_le hb7 hzwA)).trans hswA.2⟩
            have hzw6 : w3.heap.size ≤ w6.heap.size := Nat.le_trans hzwA HB6.out.size
            have Bw6 : Hid (Below w3.heap.size w3 w6) := BwA.out.trans (HB6.out.mono hzwA)
            have Zw6 : Hid (w6.heap[g10]? = some (.cells zeroC.val 24 (0, 0))) := (HB6.out.block g10 (lt_of_heap ZwA.out)).trans ZwA.out
            refine hK.out _ _ (fun _ => hsw6) ?_
            clear hK K
            try simp only [Act.put, List.setIfInBounds_toArray, List.set_cons_zero, List.set_cons_succ]
            have hHeld := hsw6
            refine Ord.wpAnyU_take (i := 7) (v := ?_) rfl (by kernel_rfl) (by kernel_rfl) (by kernel_rfl) (by kernel_rfl) (by kernel_rfl) (by kernel_rfl) (by kernel_rfl) (fun _ _ _ h => h) (Or.inl ⟨by rfl, ?_⟩) hHeld ?_
            rotate_left
            · intro w hSw; (try dsimp only at hSw); go_simp; (try with_reducible rfl)
            try simp only [Act.put, List.setIfInBounds_toArray, List.set_cons_zero, List.set_cons_succ]
            refine Ord.wpAnyU_take (i := 8) (v := ?_) rfl (by kernel_rfl) (by kernel_rfl) (by kernel_rfl) (by kernel_rfl) (by kernel_rfl) (by kernel_rfl) (by kernel_rfl) (fun _ _ _ h => h) (Or.inl ⟨by rfl, ?_⟩) hHeld ?_
            rotate_left
            · intro w hSw; (try dsimp only at hSw); go_simp; (try with_reducible rfl)
            try simp only [Act.put, List.setIfInBounds_toArray, List.set_cons_zero, List.set_cons_succ]
            refine Ord.wpAnyU_take (i := 9) (v := ?_) rfl (by kernel_rfl) (by kernel_rfl) (by kernel_rfl) (by kernel_rfl) (by kernel_rfl) (by kernel_rfl) (by kernel_rfl) (fun _ _ _ h => h) (Or.inl ⟨by rfl, ?_⟩) hHeld ?_
            rotate_left
            · intro w hSw; (try dsimp only at hSw); go_simp; (try with_reducible rfl)
            try simp only [Act.put, List.setIfInBounds_toArray, List.set_cons_zero, List.set_cons_succ]
            refine Ord.wpAnyU_one (i := 11) (by kernel_rfl) rfl (fun K hK => ?_)
            rw [if_pos (by rfl)]
            refine one_store_cmd (.tmp 10) (.tmp 64) rfl rfl g10 c' zeroC rfl rfl Zw6.out ?_
            refine hK.out _ _ (fun _ => ⟨Stand.setRow_other hsw6.1 (by omega) _, cell_setRow_other hsw6.2 (show b ≠ g10 by omega) _⟩) ?_
            clear hK K
            try simp only [Act.put, List.setIfInBounds_toArray, List.set_cons_zero, List.set_cons_succ]
            refine Ord.wpAnyU_one (i := 12) (by kernel_rfl) rfl (fun K hK => ?_)
            go_simp
            refine hK.out _ _ (fun _ => ⟨Stand.setRow_other hsw6.1 (by omega) _, cell_setRow_other hsw6.2 (show b ≠ g10 by omega) _⟩) ?_
            clear hK K
            try simp only [Act.put, List.setIfInBounds_toArray, List.set_cons_zero, List.set_cons_succ]
            refine Ord.wpAnyU_done (by kernel_rfl) ?_ _
            have HS8 : Hid (Stand (w6.setRow g10 c'.val) g10 c') := stand_of_heap (setRow_cmd c' (c0 := zeroC) Zw6.out)
            have HSc8 : Hid (Stand (w6.setRow g10 c'.val) g7 c) := Stand.setRow_other hsw6.1 (by omega) _
            have HB8 : Hid (Below w3.heap.size w3 (w6.setRow g10 c'.val)) := below_setRow Bw6.out g10 (by omega) _
            have hc8 : (w6.setRow g10 c'.val).cell? ⟨b, off + k, none⟩ = some (.string X) := cell_setRow_other hsw6.2 (show b ≠ g10 by omega) _
            have hz8 : w3.heap.size ≤ (w6.setRow g10 c'.val).heap.size := by rw [setRow_size]; exact hzw6
            generalize w6.setRow g10 c'.val = w8 at *
            go_upto_region 15 with fail
            have hH0 : Stand w8.drew g10 c' ∧ w8.drew.cell? ⟨b, off + k, none⟩ = some (.string X) := ⟨World.rowIs.drew HS8.out, hc8⟩
            refine Ord.wp_region_U (fun W' => Stand W' g10 c' ∧ W'.cell? ⟨b, off + k, none⟩ = some (.string X)) [] (by kernel_rfl) ?_
            have hHeld := hH0
            refine Ord.wpAnyU_take (i := 0) (v := .agg c'.val) rfl (by kernel_rfl) (by kernel_rfl) (by kernel_rfl) (by kernel_rfl) (by kernel_rfl) (by kernel_rfl) (by kernel_rfl) (fun _ _ _ h => h) (Or.inl ⟨by rfl, ?_⟩) hHeld ?_
            · exact fun W2 hS2 => run_load_cmd (.tmp 10) rfl rfl hS2.1
            try simp only [Act.put, List.setIfInBounds_toArray, List.set_cons_zero, List.set_cons_succ]
            refine Ord.wpAnyU_take (i := 1) (v := ?_) rfl (by kernel_rfl) (by kernel_rfl) (by kernel_rfl) (by kernel_rfl) (by kernel_rfl) (by kernel_rfl) (by kernel_rfl) (fun _ _ _ h => h) (Or.inl ⟨by rfl, ?_⟩) hHeld ?_
            rotate_left
            · intro w hSw; (try dsimp only at hSw); go_simp; (try with_reducible rfl)
            try simp only [Act.put, List.setIfInBounds_toArray, List.set_cons_zero, List.set_cons_succ]
            refine Ord.wpAnyU_take (i := 2) (v := ?_) rfl (by kernel_rfl) (by kernel_rfl) (by kernel_rfl) (by kernel_rfl) (by kernel_rfl) (by kernel_rfl) (by kernel_rfl) (fun _ _ _ h => h) (Or.inl ⟨by rfl, ?_⟩) hHeld ?_
            rotate_left
            · intro w hSw; (try dsimp only at hSw); go_simp; (try with_reducible rfl)
            try simp only [Act.put, List.setIfInBounds_toArray, List.set_cons_zero, List.set_cons_succ]
            refine Ord.wpAnyU_take (i := 3) (v := ?_) rfl (by kernel_rfl) (by kernel_rfl) (by kernel_rfl) (by kernel_rfl) (by kernel_rfl) (by kernel_rfl) (by kernel_rfl) (fun _ _ _ h => h) (Or.inl ⟨by rfl, ?_⟩) hHeld ?_
            rotate_left
            · intro w hSw; (try dsimp only at hSw); go_simp; (try with_reducible rfl)
            try simp only [Act.put, List.setIfInBounds_toArray, List.set_cons_zero, List.set_cons_succ]
            refine Ord.wpAnyU_take (i := 4) (v := ?_) rfl (by kernel_rfl) (by kernel_rfl) (by kernel_rfl) (by kernel_rfl) (by kernel_rfl) (by kernel_rfl) (by kernel_rfl) (fun _ _ _ h => h) (Or.inl ⟨by rfl, ?_⟩) hHeld ?_
            rotate_left
            · intro w hSw; (try dsimp only at hSw); go_simp; (try with_reducible rfl)
            try simp only [Act.put, List.setIfInBounds_toArray, List.set_cons_zero, List.set_cons_succ]
            refine Ord.wpAnyU_one (i := 5) (by kernel_rfl) rfl (fun K hK => ?_)
            go_simp
            go_wp2_with ((go_at_call 16; (with_reducible refine (CGETk.out c' HN6.out _).mono ?_); rintro e w9 ⟨rfl, hb9⟩; have HB9 := Lib.hid hb9; clear hb9; have hs9 : _ ∧ _ := ⟨Stand.below hH0.1 HB9.out, (HB9.out.cell (p := ⟨b, off + k, none⟩) (Nat.lt_of_lt_of_le hb7 hz8)).trans hH0.2⟩))
            refine hK.out _ _ (fun _ => hs9) ?_
            clear hK K
            try simp only [Act.put, List.setIfInBounds_toArray, List.set_cons_zero, List.set_cons_succ]
            refine Ord.wpAnyU_one (i := 6) (by kernel_rfl) rfl (fun K hK => ?_)
            go_simp
            refine hK.out _ _ (fun _ => hs9) ?_
            clear hK K
            try simp only [Act.put, List.setIfInBounds_toArray, List.set_cons_zero, List.set_cons_succ]
            have hHeld := hs9
            refine Ord.wpAnyU_take (i := 7) (v := ?_) rfl (by kernel_rfl) (by kernel_rfl) (by kernel_rfl) (by kernel_rfl) (by kernel_rfl) (by kernel_rfl) (by kernel_rfl) (fun _ _ _ h => h) (Or.inl ⟨by rfl, ?_⟩) hHeld ?_
            rotate_left
            · intro w hSw; (try dsimp only at hSw); go_simp; (try with_reducible rfl)
            try simp only [Act.put, List.setIfInBounds_toArray, List.set_cons_zero, List.set_cons_succ]
            have hHeld := hs9
            refine Ord.wpAnyU_take (i := 8) (v := ?_) rfl (by kernel_rfl) (by kernel_rfl) (by kernel_rfl) (by kernel_rfl) (by kernel_rfl) (by kernel_rfl) (by kernel_rfl) (fun _ _ _ h => h) (Or.inl ⟨by rfl, ?_⟩) hHeld ?_
            rotate_left
            · intro w hSw; (try dsimp only at hSw); go_simp; (try with_reducible rfl)
            try simp only [Act.put, List.setIfInBounds_toArray, List.set_cons_zero, List.set_cons_succ]
            refine Ord.wpAnyU_one (i := 9) (by kernel_rfl) rfl (fun K hK => ?_)
            go_simp
            refine hK.out _ _ (fun _ => hs9) ?_
            clear hK K
            try simp only [Act.put, List.setIfInBounds_toArray, List.set_cons_zero, List.set_cons_succ]
            refine Ord.wpAnyU_one (i := 10) (by kernel_rfl) rfl (fun K hK => ?_)
            go_simp
            refine hK.out _ _ (fun _ => hs9) ?_
            clear hK K
            try simp only [Act.put, List.setIfInBounds_toArray, List.set_cons_zero, List.set_cons_succ]
            refine Ord.wpAnyU_done (by kernel_rfl) ?_ _
            have HS9 := Lib.hid hs9.1
            have HSc9 : Hid (Stand w9 g7 c) := Stand.below (World.rowIs.drew HSc8.out) HB9.out
            have HBB9 : Hid (Below w3.heap.size w3 w9) := (below_dN HB8.out 1).trans (HB9.out.mono hz8)
            clear hs9 hH0 hc8 HB9
            go_upto_region 18 with fail
            apply wp_region_lit
            refine load_cmd rfl (.tmp 10) rfl g10 rfl c' HS9.out ?_
            refine store_cmd rfl (.tmp 7) (.tmp 86) rfl rfl g7 c' c rfl rfl HSc9.out.heap ?_
            refine wpl_named fun w10 hw10 => ?_
            have HS10 : Hid (Stand w10 g7 c') := by rw [hw10]; exact stand_of_heap (setRow_cmd c' HSc9.out.heap)
            have HB10 : Hid (Below w3.heap.size w3 w10) := by rw [hw10]; exact below_setRow HBB9.out g7 hgle _
            clear hw10
            go_wp2
            go_roundw
            case rel => exact ⟨k + 1, c', by omega, by go_num, HS10, HE6, HB10⟩
            case measure => simp [intOf]; omega
    · have hke : k = m := by omega
      have n1 : ¬ (k : Int) < (m : Int) := by omega
      have d1 : decide ((k : Int) < (m : Int)) = false := decide_eq_false n1
      rw [hke] at HEc
      have HWr : Hid (Below w.heap.size w wr) := HW3.out.trans (HBr.out.mono HW3.out.size)
      clear hke HBr
      go_upto_region 19 with fail
      apply wp_region_lit
      refine load_cmd rfl (.tmp 7) rfl g7 rfl c HSc.out ?_
      go_upto_region 20 with (go_at_call 9; (with_reducible refine (CP.out c HEc.out _ (HT.out.below HWr.out)).mono ?_); rintro e w5 ⟨rfl, hb5⟩; have HS5 := Lib.hid (HSc.out.below hb5); have HW5 := Lib.hid (below2 HWr.out hb5); clear hb5)
      go_upto_region 21 with (first
        | (go_at_call 11; (with_reducible refine (CT.out _ (HT.out.below HW5.out)).mono ?_); rintro e w6 ⟨cb, rfl, HEb, HB6⟩; have HS6 := Lib.hid (HS5.out.below HB6.out); have HW6 := Lib.hid (below2 HW5.out HB6.out))
        | (refine store_cmd rfl (.tmp 16) (.tmp 95) rfl rfl w6.heap.size cb zeroC rfl rfl (heap_alloc_new w6 _) ?_; refine wpl_named fun w7 hw7 => ?_; have HSb : Hid (Stand w7 w6.heap.size cb) := (by rw [hw7]; exact stand_of_heap (setRow_cmd cb (c0 := zeroC) (heap_alloc_new w6 _))); have HN7 : Hid (Below w6.heap.size w6 w7) := (by rw [hw7]; exact below_setRow (below_al (Below.refl _ _) _) _ (Nat.le_refl _) _); have HS7 := Lib.hid (HS6.out.below HN7.out); have HW7 := Lib.hid (below2 HW6.out HN7.out); clear hw7))
      apply wp_region_lit
      iterate 3 (refine wpList_step (fun K hK => ?_); go_simp; refine hK _ _ ?_; clear hK K)
      iterate 2 (refine wpList_unguard rfl ?_; refine wpList_step (fun K hK => ?_); go_simp; refine hK _ _ ?_; clear hK K)
      iterate 2 (refine wpList_step (fun K hK => ?_); go_simp; refine hK _ _ ?_; clear hK K)
      refine wpList_unguard rfl ?_
      refine load_cmd rfl (.tmp 7) rfl g7 rfl c HS7.out ?_
      refine wpList_unguard rfl ?_
      refine load_cmd rfl (.tmp 16) rfl w6.heap.size rfl cb HSb.out ?_
      go_wp2_with (first
        | (go_at_call 13; (with_reducible refine (CSM.out c cb HEc.out HEb.out _).mono ?_); rintro e w8 ⟨rfl, hb8⟩; have HW8 := Lib.hid (below2 HW7.out hb8); clear hb8)
        | (go_at_call 8; (with_reducible refine (CA.out _ (HT.out.below HW8.out)).mono ?_); rintro e w9 ⟨rfl, hb9⟩; have HW9 := Lib.hid (below2 HW8.out hb9); clear hb9))
      all_goals go_ret
      all_goals exact ⟨rfl, HW9.out⟩
end Cmd
end Go.Proofs.YtbjlkeneeodghaaDoor
