/- The statement on many ways: the walk. -/
import Derived.Test.YtjdkkldlghdojaaGraL1
import Derived.Test.YtjdkkldlghdojaaGraZ
import Derived.Deep.DeepMust
namespace Go.Proofs.Ytjdkkldlghdojaa
open Go.RowKit
namespace Gra
open In (Ints IsInts IsPairs PrsK IsTwo)
def pairVals (l : List (Int × Int)) : List Value := l.flatMap fun e => [.int .i64 e.1, .int .i64 e.2]
theorem pairVals_len (l : List (Int × Int)) : (pairVals l).length = l.length * 2 := by
  induction l with
  | nil => rfl
  | cons e l ih => unfold pairVals at *; rw [List.flatMap_cons, List.length_append, ih]; simp; omega
theorem pairVals_snoc (l : List (Int × Int)) (p q : Int) : pairVals (l ++ [(p, q)]) = pairVals l ++ [.int .i64 p, .int .i64 q] := by
  unfold pairVals; rw [List.flatMap_append]; rfl
theorem pairVals_get (l : List (Int × Int)) (i : Nat) (hi : i < l.length) : (pairVals l)[i * 2]? = some (.int .i64 (l.getD i (0, 0)).1) ∧ (pairVals l)[i * 2 + 1]? = some (.int .i64 (l.getD i (0, 0)).2) := by
  induction l generalizing i with
  | nil => exact absurd hi (Nat.not_lt_zero i)
  | cons e l ih =>
    have h : pairVals (e :: l) = .int .i64 e.1 :: .int .i64 e.2 :: pairVals l := rfl
    rw [h]
    cases i with
    | zero => exact ⟨rfl, rfl⟩
    | succ i =>
      have := ih i (by simpa using hi)
      rw [show (i + 1) * 2 = i * 2 + 1 + 1 by omega, show i * 2 + 1 + 1 + 1 = (i * 2 + 1) + 1 + 1 by omega]
      simpa using this
theorem own_prs {w : World} {base : Nat} {v : Value} {l : List (Int × Int)} (h : w.ownsRow base 23 2 v l.length (pairVals l)) : ∃ a cap, v = .slice a l.length cap ∧ Prs w a l := by
  rcases h.2 with ⟨e, h0⟩ | ⟨g, cap, cur, hv, _⟩
  · exact ⟨none, 0, by rw [e, h0], fun i hi => by omega⟩
  · rw [hv] at h
    have hr := RowAt.of_own h
    refine ⟨_, cap, hv, fun i hi => ⟨g, 0, rfl, hr.lt, ?_, ?_⟩⟩
    · rw [Nat.zero_add]; exact hr.cell (pairVals_get l i hi).1
    · rw [Nat.zero_add]; exact hr.cell (pairVals_get l i hi).2
theorem info23 : (Try.prog.info? 23).map (fun i => (i.zero, i.size, i.bytes)) = some (some (.agg #[.int .i64 0, .int .i64 0]), 2, 16) := by kernel_rfl
/-- The ladder. -/
def lad : Nat → List (Int × Int)
  | 0 => []
  | k + 1 => lad k ++ [(((k + 1 : Nat) : Int), ((k + 1 : Nat) : Int) + 1), (((k + 1 : Nat) : Int), ((k + 1 : Nat) : Int) + 1)]
theorem lad_len (k : Nat) : (lad k).length = 2 * k := by
  induction k with
  | zero => rfl
  | succ k ih => rw [lad, List.length_append, ih]; simp; omega
theorem lad_mem (k : Nat) (e : Int × Int) : e ∈ lad k → 1 ≤ e.1 ∧ e.1 ≤ (k : Int) ∧ e.2 = e.1 + 1 := by
  induction k with
  | zero => intro h; cases h
  | succ k ih =>
    rw [lad, List.mem_append]
    rintro (h | h)
    · have := ih h; omega
    · have h2 : e = (((k + 1 : Nat) : Int), ((k + 1 : Nat) : Int) + 1) := by simpa using h
      subst h2
      exact ⟨by show (1 : Int) ≤ ((k + 1 : Nat) : Int); omega, Int.le_refl _, rfl⟩
theorem lad_nds (k : Nat) (x : Nat) (h1 : 1 ≤ x) (h2 : x ≤ k) : ndsF (lad k) (x : Int) = [(x : Int) + 1, (x : Int) + 1] := by
  induction k with
  | zero => omega
  | succ k ih =>
    have e : ∀ E : List (Int × Int), ndsF (E ++ [(((k + 1 : Nat) : Int), ((k + 1 : Nat) : Int) + 1), (((k + 1 : Nat) : Int), ((k + 1 : Nat) : Int) + 1)]) (x : Int) = if ((k + 1 : Nat) : Int) = (x : Int) then ndsF E (x : Int) ++ [((k + 1 : Nat) : Int) + 1, ((k + 1 : Nat) : Int) + 1] else ndsF E (x : Int) := fun E => by
      rw [show E ++ [(((k + 1 : Nat) : Int), ((k + 1 : Nat) : Int) + 1), (((k + 1 : Nat) : Int), ((k + 1 : Nat) : Int) + 1)] = (E ++ [(((k + 1 : Nat) : Int), ((k + 1 : Nat) : Int) + 1)]) ++ [(((k + 1 : Nat) : Int), ((k + 1 : Nat) : Int) + 1)] by simp, ndsF_snoc, ndsF_snoc]
      split <;> simp
    rw [lad, e]
    by_cases hx : x = k + 1
    · subst hx
      rw [if_pos rfl]
      have : ndsF (lad k) ((k + 1 : Nat) : Int) = [] := by
        cases hc : ndsF (lad k) ((k + 1 : Nat) : Int) with
        | nil => rfl
        | cons a l =>
          have hm := nds_mem.1 (show a ∈ ndsF (lad k) ((k + 1 : Nat) : Int) by rw [hc]; exact List.mem_cons_self)
          have := lad_mem k _ hm
          simp only at this
          omega
      rw [this]; rfl
    · rw [if_neg (by omega)]; exact ih (by omega)
theorem lad_good (k : Nat) (hk : k ≤ 63) : Good ((k : Int) + 1) (lad k) := by
  refine ⟨by omega, by omega, by rw [lad_len]; omega, fun j hj => ?_⟩
  have hm : (lad k).getD j (0, 0) ∈ lad k := by rw [List.getD_eq_getElem?_getD, List.getElem?_eq_getElem hj]; exact List.getElem_mem _
  have := lad_mem k _ hm
  unfold inW
  rw [Bool.and_eq_true, Bool.and_eq_true]
  exact ⟨⟨decide_eq_true (by omega), decide_eq_true (by omega)⟩, ⟨decide_eq_true (by omega), decide_eq_true (by omega)⟩⟩
theorem lad_up (k : Nat) {x y : Int} (h : Rch (lad k) x y) : x < y := by
  induction h with
  | one e => have := lad_mem k _ e; simp only at this; omega
  | next _ e ih => have := lad_mem k _ e; simp only at this; omega
theorem lad_full (k : Nat) : (ord (k + 1) (lad k)).length = k + 1 := by
  refine full_of (fun e he => ?_) (fun x _ _ h => ?_)
  · have := lad_mem k e he; omega
  · have := lad_up k h; omega
theorem lad_ways (k : Nat) (hk : k ≤ 63) (x : Nat) (h1 : 1 ≤ x) (h2 : x ≤ k + 1) : waysV (k + 1) (lad k) (x : Int) ((k + 1 : Nat) : Int) = ((2 ^ (k + 1 - x) : Nat) : Int) := by
  have hok := ordG_ok (k + 1) (lad k) (k + 1)
  have hf := lad_full k
  obtain ⟨j, hj⟩ : ∃ j, x + j = k + 1 := ⟨k + 1 - x, by omega⟩
  induction j generalizing x with
  | zero =>
    have : x = k + 1 := by omega
    subst this
    unfold waysV
    rw [wyT_to, Nat.sub_self]; rfl
  | succ j ih =>
    have ih' := ih (x + 1) (by omega) (by omega) (by omega)
    unfold waysV at ih' ⊢
    have hm : (x : Int) ∈ ord (k + 1) (lad k) := full_mem hok (by unfold ord at hf; omega) x h1 h2
    rw [wyT_final (z := ((k + 1 : Nat) : Int)) (xs := ord (k + 1) (lad k)) hok.nodup (ordG_ahead (k + 1) (lad k) (k + 1)) hm (by omega), lad_nds k x h1 (by omega)]
    show 0 + wyT _ _ _ _ ((x : Int) + 1) + wyT _ _ _ _ ((x : Int) + 1) = _
    rw [show ((x : Int) + 1) = ((x + 1 : Nat) : Int) by omega, ih', show k + 1 - x = (k + 1 - (x + 1)) + 1 by omega, Nat.pow_succ]
    omega
/-- What is told of the ladder's ways. -/
theorem lad_res (k : Nat) (hk1 : 1 ≤ k) (hk : k ≤ 63) : waysRes ((k : Int) + 1) (lad k) 1 ((k : Int) + 1) = if k ≤ 62 then (((2 ^ k : Nat) : Int), 0) else (0, 5) := by
  have h := lad_ways k hk 1 (Nat.le_refl _) (by omega)
  have e : ((k : Int) + 1).toNat = k + 1 := by omega
  have e2 : ((k : Int) + 1) = ((k + 1 : Nat) : Int) := by omega
  have hf := lad_full k
  unfold waysRes
  rw [if_pos ⟨lad_good k hk, by unfold inW; simp; omega, by unfold inW; simp; omega⟩, e, if_neg (by rw [hf]; omega), e2]
  rw [show ((1 : Nat) : Int) = 1 from rfl, show k + 1 - 1 = k by omega] at h
  rw [h]
  by_cases h62 : k ≤ 62
  · have : (2 ^ k : Nat) ≤ 2 ^ 62 := Nat.pow_le_pow_right (by omega) h62
    rw [if_pos (by unfold MX; omega), if_pos h62]
  · have : k = 63 := by omega
    subst this
    rw [if_neg (by unfold MX; omega), if_neg (by omega)]
theorem pow_wrap (j : Nat) (h : j ≤ 62) : wrap64 ((2 : Int) ^ j) = ((2 ^ j : Nat) : Int) := by
  have h1 : (2 ^ j : Nat) ≤ 2 ^ 62 := Nat.pow_le_pow_right (by omega) h
  have h2 : ((2 : Int) ^ j) = ((2 ^ j : Nat) : Int) := by rw [Int.natCast_pow]; rfl
  rw [h2]
  generalize 2 ^ j = q at *
  unfold wrap64
  omega
theorem pair0 (w : World) (x y : Value) (t : TypeId) : (w.alloc (.cells #[x, y] t)).cell? ((⟨w.heap.size, 0, none⟩ : Addr).add 0) = some x := by
  rw [Addr.add_lit]; exact (cell_of_row _ _ _ _ _ _ (heap_alloc_new w _)).trans rfl
theorem pair1 (w : World) (x y : Value) (t : TypeId) : (w.alloc (.cells #[x, y] t)).cell? ((⟨w.heap.size, 0, none⟩ : Addr).add 1) = some y := by
  rw [Addr.add_lit]; exact (cell_of_row _ _ _ _ _ _ (heap_alloc_new w _)).trans rfl
set_option maxRecDepth 100000 in
set_option maxHeartbeats 4000000 in
theorem many_walk (x : Int) (hx : (Lit.int .u8 x).wf = true) (w : World) :
    Calls Try.prog 4 #[.int .u8 x] w fun e w' => e = .returned (.bool true) ∧ Below w.heap.size w w' := by
  have hb := bounds_u8 hx
  have AW := Lib.hid awake_any
  obtain ⟨i0, hi, hz0, hz1, hz2⟩ := info_parts info23
  clear hx
  obtain ⟨N, hN⟩ : ∃ N : Nat, Hid (1 + x % 63 = (N : Int)) := ⟨(1 + x % 63).toNat, by show _ = _; omega⟩
  have hN1 : 1 ≤ N := by have := hN.out; omega
  have hN2 : N ≤ 63 := by have := hN.out; omega
  have HNN : Hid (1 ≤ N ∧ N ≤ 63) := ⟨hN1, hN2⟩
  have hNI : (N : Int) < 64 := by omega
  have e0 : 1 + x % 63 = (N : Int) := hN.out
  have x0 := hb.1
  have x1 := hb.2
  clear hb hN1 hN2
  go_enter Try.func4, Try.ntmps4
  go_wp2
  clear e0 x0 x1
  go_loopw [4, 5] (fun v4 v5 wr => ∃ j : Nat, j ≤ N ∧ v5 = .int .i64 ((j + 1 : Nat) : Int) ∧ Hid (wr.ownsRow w.heap.size 23 2 v4 (lad j).length (pairVals (lad j))) ∧ Hid (Below w.heap.size w wr)) (fun _ v5 _ => N + 1 - (intOf v5).toNat)
  case atStart => exact ⟨0, by omega, rfl, World.ownsRow_nil _ _ _ _, Below.refl _ _⟩
  case round =>
    obtain ⟨j, hj, rfl, HO, HB⟩ := hrel
    by_cases hlt : j < N
    · obtain ⟨K, hK⟩ : ∃ K : Int, Hid (((j + 1 : Nat) : Int) = K) := ⟨_, rfl⟩
      have hK0 : (1 : Int) ≤ K := by have := hK.out; omega
      have hK1 : K ≤ (N : Int) := by have := hK.out; omega
      have HLL : Hid ((lad j).length ≤ 126) := by show _ ≤ _; rw [lad_len]; omega
      have HLS : Hid (lad (j + 1) = lad j ++ [(K, K + 1), (K, K + 1)]) := by show _ = _; rw [← hK.out]; rfl
      have HLT : Hid (j < N) := hlt
      rw [hK.out]
      clear hlt
      go_wp2_with (first
        | (at_builtin; (refine Own.lies_pair rfl (.tmp 17) (.tmp 22) 22 rfl w.heap.size 23 i0 _ 16 Try.underlying22 hi hz0 hz1 hz2 rfl _ _ _ rfl _ _ _ _ rfl (HO.out.alloc _) (pair0 _ _ _ _) (pair1 _ _ _ _) rfl rfl ?h1 ?h2 ?h3 (wr.heap.size + 1) (by simp) ?_; (case h1 => have := HLL.out; unfold maxLen; omega); (case h2 => have := HLL.out; omega); (case h3 => have := HB.out.size; simp; omega); intro g1 cap1 w1 hown hgrow hat hlt; have HB1 := Lib.hid ((below_al HB.out _).grown hgrow (below_al HB.out _).size (Own.own_block HO.out (Nat.le_refl _))); have HO1 := Lib.hid hown; clear hown hgrow hat hlt))
        | (at_builtin; go_must (refine Own.lies_pair rfl (.tmp 24) (.tmp 29) 22 rfl w.heap.size 23 i0 _ 16 Try.underlying22 hi hz0 hz1 hz2 rfl _ _ _ rfl _ _ _ _ rfl (HO1.out.alloc _) (pair0 _ _ _ _) (pair1 _ _ _ _) rfl rfl ?h1 ?h2 ?h3 (w1.heap.size + 1) (by simp) ?_; (case h1 => have := HLL.out; unfold maxLen; omega); (case h2 => have := HLL.out; omega); (case h3 => have := HB1.out.size; simp; omega); intro g2 cap2 w2 hown hgrow hat hlt; have HB2 := Lib.hid ((below_al HB1.out _).grown hgrow (below_al HB1.out _).size (Own.own_block HO1.out (Nat.le_refl _))); have HO2 := Lib.hid hown; clear hown hgrow hat hlt)))
      go_roundw
      case rel => exact ⟨j + 1, HLT.out, by rw [show ((j + 1 + 1 : Nat) : Int) = K + 1 by have := hK.out; omega], by
        rw [HLS.out, show lad j ++ [(K, K + 1), (K, K + 1)] = (lad j ++ [(K, K + 1)]) ++ [(K, K + 1)] by simp, pairVals_snoc, pairVals_snoc, List.length_append, List.length_append]
        exact HO2, HB2⟩
      case measure =>
        have := hK.out
        have := HLT.out
        simp only [intOf]
        omega
    · have hje : j = N := by omega
      subst hje
      obtain ⟨ao, co, eo, hP⟩ := own_prs HO.out
      have HP := Lib.hid hP
      have CW := Lib.hid (Ways_any ((j : Int) + 1) ao co (lad j) 1 ((j : Int) + 1) wr hP)
      rw [lad_res j HNN.out.1 HNN.out.2] at CW
      have hge : ¬ ((j + 1 : Nat) : Int) ≤ (j : Int) := by omega
      rw [eo]
      by_cases h62 : j ≤ 62
      · rw [if_pos h62] at CW
        have hg1 : ¬ (63 : Int) ≤ (j : Int) := by omega
        obtain ⟨PW, hPW⟩ : ∃ PW : Int, Hid (((2 ^ j : Nat) : Int) = PW) := ⟨_, rfl⟩
        have hsh := pow_wrap j h62
        rw [hPW.out] at CW hsh
        clear eo hP hlt h62
        go_wp2_with (first
          | (go_at_call 8; (with_reducible refine CW.out.mono ?_); rintro e w5 ⟨rfl, h5⟩; have HB5 := Lib.hid (below2 HB.out h5); clear h5)
          | (go_at_call 7; ((with_reducible refine (AW.out _).mono ?_); rintro e w6 ⟨rfl, hb6⟩; have HB6 := Lib.hid (below2 HB5.out hb6); clear hb6)))
        go_ret
        exact ⟨rfl, HB6.out⟩
      · rw [if_neg h62] at CW
        have hg1 : (63 : Int) ≤ (j : Int) := by omega
        clear eo hP hlt h62
        go_wp2_with (first
          | (go_at_call 8; (with_reducible refine CW.out.mono ?_); rintro e w5 ⟨rfl, h5⟩; have HB5 := Lib.hid (below2 HB.out h5); clear h5)
          | (go_at_call 7; ((with_reducible refine (AW.out _).mono ?_); rintro e w6 ⟨rfl, hb6⟩; have HB6 := Lib.hid (below2 HB5.out hb6); clear hb6)))
        go_ret
        exact ⟨rfl, HB6.out⟩
end Gra
end Go.Proofs.Ytjdkkldlghdojaa
