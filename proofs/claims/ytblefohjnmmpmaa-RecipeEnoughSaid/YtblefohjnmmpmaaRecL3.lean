/- The walk of RecipeEnough. -/
import Derived.Test.YtblefohjnmmpmaaRecL
namespace Go.Proofs.Ytblefohjnmmpmaa
open Go.RowKit
namespace Rec
theorem u16_and1023 (n : Int) : bits .and .u16 n 1023 = n % 1024 := by
  show IntKind.u16.wrap ((BitVec.ofInt 16 n &&& BitVec.ofInt 16 1023).toNat : Int) = _
  rw [BitVec.toNat_and, show (BitVec.ofInt 16 1023).toNat = 2 ^ 10 - 1 from rfl, Nat.and_two_pow_sub_one_eq_mod, BitVec.toNat_ofInt, IntKind.wrap_u16]
  have h : ((n % ((2 ^ 16 : Nat) : Int)).toNat : Int) = n % ((2 ^ 16 : Nat) : Int) := Int.toNat_of_nonneg (Int.emod_nonneg _ (by decide))
  have h2 : (((n % ((2 ^ 16 : Nat) : Int)).toNat % 2 ^ 10 : Nat) : Int) = n % 1024 := by
    rw [Int.natCast_emod, h]
    omega
  rw [h2]
  omega
theorem upI_zero (n c : Int) (h : 0 ≤ n) (hc : 1 ≤ c) (hz : upI n c = 0) : n = 0 := by
  unfold upI at hz
  have h1 := Int.lt_ediv_add_one_mul_self (n + c - 1) (show 0 < c by omega)
  rw [hz] at h1
  omega
theorem upI_enough (n c : Int) (hc : 1 ≤ c) : n ≤ c * upI n c := by
  unfold upI
  have h1 := Int.lt_ediv_add_one_mul_self (n + c - 1) (show 0 < c by omega)
  rw [Int.add_mul, Int.mul_comm] at h1
  omega
theorem upI_less (n c : Int) (hc : 1 ≤ c) : c * (upI n c - 1) < n := by
  unfold upI
  have h1 := Int.ediv_mul_le (n + c - 1) (show c ≠ 0 by omega)
  rw [Int.mul_sub, Int.mul_comm c]
  omega
theorem ok1_no_in {b : BlueIn} {n f t : Int} (h : ¬ f ≤ n) : ok1 b n f t = false := by
  unfold ok1 inB
  simp only [decide_eq_false h]
  simp
theorem ok1_mk {b : BlueIn} {n f t : Int} (hk : bchk b 32 = 0) (h1 : f ≤ n) (h2 : n ≤ t) : ok1 b n f t = true := by
  unfold ok1
  rw [decide_eq_true hk, inB_mk h1 h2]
  rfl
set_option maxRecDepth 100000 in
set_option maxHeartbeats 8000000 in
theorem enough_walk (w : World) (v : Value) (b : BlueIn) (hv : IsBlue w v b) (n : Int) (_hn : (Lit.int .u16 n).wf = true) :
    Calls Try.prog 5 #[v, .int .u16 n] w fun e w' => e = .returned (.bool true) ∧ Below w.heap.size w w' := by
  obtain ⟨rfl, hmx, hst, hwf, hwm⟩ := hv
  have hbw := Lib.hid ((Below.refl w.heap.size w).alloc (Nat.le_refl _) (.cells #[.int .i64 b.makes, .int .i64 b.per, .int .i64 b.time, .slice b.addr b.needs.length b.cap, .int .i64 b.copy, .int .i64 b.study, .int .i64 b.most] 24))
  by_cases hlen : b.needs.length ≤ 12
  case neg =>
    have dl : decide ((12 : Int) < (b.needs.length : Int)) = true := decide_eq_true (by omega)
    clear hlen
    unfold BlueIn.val
    go_enter Try.func5, Try.ntmps5
    go_wp2_with (go_at_call 7; ((with_reducible refine (awake_any _).mono ?_); rintro e w1 ⟨rfl, hb1⟩))
    go_ret
    exact ⟨rfl, hbw.out.trans (hb1.mono (by simp))⟩
  have HB : Hid (Came w b) := ⟨hlen, hst, hwf, hwm⟩
  have dl : decide ((12 : Int) < (b.needs.length : Int)) = false := decide_eq_false (by omega)
  clear hst hwf hwm hlen hmx
  obtain ⟨M, qM, m1, m2⟩ : ∃ M, bits .and .u16 n 1023 = M ∧ 0 ≤ M ∧ M ≤ 1023 := ⟨_, u16_and1023 n, by omega, by omega⟩
  have HV : runsV b M = if ok1 b M 0 1125899906842624 then (upI M b.per, 0) else (0, 1) := rfl
  have HO : ok1 b M 0 1125899906842624 = true → bchk b 32 = 0 := fun h => (ok1_yes h).1
  cases hok : ok1 b M 0 1125899906842624
  · rw [hok] at HV
    replace HV : runsV b M = (0, 1) := HV
    have C1 : Hid (∀ W : World, Below w.heap.size w W → Calls Try.prog 17 #[.agg #[.int .i64 b.makes, .int .i64 b.per, .int .i64 b.time, .slice b.addr b.needs.length b.cap, .int .i64 b.copy, .int .i64 b.study, .int .i64 b.most], .int .i64 M] W fun e w' => e = .returned (.tuple #[.int .i64 0, .int .i64 1]) ∧ Below W.heap.size W w') := fun W h => by
      have := runs_any b M W (HB.out.below h)
      rwa [HV] at this
    clear HV HO hok
    unfold BlueIn.val
    go_enter Try.func5, Try.ntmps5
    go_wp2_with (first
      | (go_at_call 7; ((with_reducible refine (awake_any _).mono ?_); rintro e w2 ⟨rfl, hb2⟩))
      | (go_at_call 17; ((with_reducible refine (C1.out _ hbw.out).mono ?_); rintro e w1 ⟨rfl, hb1⟩; have hB1 := Lib.hid (hbw.out.trans (hb1.mono (by simp))); have X1 := Lib.hid (boxed_first hb1); have s1 := Lib.hid (box_lt hb1); obtain ⟨c0, c1, c2, c3, c4, c5, c6⟩ := X1.out)))
    go_ret
    exact ⟨rfl, below2 hB1.out hb2⟩
  · rw [hok] at HV
    have hK := HO hok
    replace HV : runsV b M = (upI M b.per, 0) := HV
    obtain ⟨_, _, ⟨hp1, hp2⟩, _⟩ := bchk_ok b 32 hK
    have z0 := upI_zero M b.per m1 hp1
    have z1 := upI_enough M b.per hp1
    have z2 := upI_less M b.per hp1
    have z3 := upI_nonneg M b.per m1 hp1
    generalize upI M b.per = K at *
    have C1 : Hid (∀ W : World, Below w.heap.size w W → Calls Try.prog 17 #[.agg #[.int .i64 b.makes, .int .i64 b.per, .int .i64 b.time, .slice b.addr b.needs.length b.cap, .int .i64 b.copy, .int .i64 b.study, .int .i64 b.most], .int .i64 M] W fun e w' => e = .returned (.tuple #[.int .i64 K, .int .i64 0]) ∧ Below W.heap.size W w') := fun W h => by
      have := runs_any b M W (HB.out.below h)
      rwa [HV] at this
    by_cases k0 : K = 0
    · obtain rfl := k0
      obtain rfl := z0 rfl
      clear HV HO hok z1 z2 z3 hp1 hp2 m1 m2
      unfold BlueIn.val
      go_enter Try.func5, Try.ntmps5
      go_wp2_with (first
        | (go_at_call 7; ((with_reducible refine (awake_any _).mono ?_); rintro e w2 ⟨rfl, hb2⟩))
        | (go_at_call 17; ((with_reducible refine (C1.out _ hbw.out).mono ?_); rintro e w1 ⟨rfl, hb1⟩; have hB1 := Lib.hid (hbw.out.trans (hb1.mono (by simp))); have X1 := Lib.hid (boxed_first hb1); have s1 := Lib.hid (box_lt hb1); obtain ⟨c0, c1, c2, c3, c4, c5, c6⟩ := X1.out)))
      go_ret
      exact ⟨rfl, below2 hB1.out hb2⟩
    have d0 : (K == 0) = false := beq_eq_false_iff_ne.2 k0
    by_cases k1 : K ≤ 1000
    case neg =>
      have d1 : decide ((1000 : Int) < K) = true := decide_eq_true (by omega)
      have d2 : decide ((1 : Int) < K) = true := decide_eq_true (by omega)
      clear HV HO hok z0 z1 z2 z3 hp1 hp2 k1
      by_cases e0 : M = 0
      · subst e0
        unfold BlueIn.val
        go_enter Try.func5, Try.ntmps5
        go_wp2_with (first
          | (go_at_call 7; ((with_reducible refine (awake_any _).mono ?_); rintro e w2 ⟨rfl, hb2⟩))
          | (go_at_call 17; ((with_reducible refine (C1.out _ hbw.out).mono ?_); rintro e w1 ⟨rfl, hb1⟩; have hB1 := Lib.hid (hbw.out.trans (hb1.mono (by simp))); have X1 := Lib.hid (boxed_first hb1); have s1 := Lib.hid (box_lt hb1); obtain ⟨c0, c1, c2, c3, c4, c5, c6⟩ := X1.out)))
        go_ret
        exact ⟨rfl, below2 hB1.out hb2⟩
      · have d4 : (M == 0) = false := beq_eq_false_iff_ne.2 e0
        unfold BlueIn.val
        go_enter Try.func5, Try.ntmps5
        go_wp2_with (first
          | (go_at_call 7; ((with_reducible refine (awake_any _).mono ?_); rintro e w2 ⟨rfl, hb2⟩))
          | (go_at_call 17; ((with_reducible refine (C1.out _ hbw.out).mono ?_); rintro e w1 ⟨rfl, hb1⟩; have hB1 := Lib.hid (hbw.out.trans (hb1.mono (by simp))); have X1 := Lib.hid (boxed_first hb1); have s1 := Lib.hid (box_lt hb1); obtain ⟨c0, c1, c2, c3, c4, c5, c6⟩ := X1.out)))
        go_ret
        exact ⟨rfl, below2 hB1.out hb2⟩
    have d1 : decide ((1000 : Int) < K) = false := decide_eq_false (by omega)
    have hM1 : makesV b K = ((b.makes, b.per * K), 0) := by unfold makesV; rw [ok1_mk hK (by omega) k1]; rfl
    have C2 : Hid (∀ W : World, Below w.heap.size w W → Calls Try.prog 10 #[.agg #[.int .i64 b.makes, .int .i64 b.per, .int .i64 b.time, .slice b.addr b.needs.length b.cap, .int .i64 b.copy, .int .i64 b.study, .int .i64 b.most], .int .i64 K] W fun e w' => e = .returned (.tuple #[.agg #[.int .i64 b.makes, .int .i64 (b.per * K)], .int .i64 0]) ∧ Below W.heap.size W w') := fun W h => by
      have := makes_any b K W (HB.out.below h)
      rwa [hM1] at this
    have d5 : decide (b.per * K < M) = false := decide_eq_false (by omega)
    by_cases k2 : K = 1
    · have hM2 : makesV b 0 = ((0, 0), 1) := by unfold makesV; rw [ok1_no_in (by omega)]; rfl
      have C3 : Hid (∀ W : World, Below w.heap.size w W → Calls Try.prog 10 #[.agg #[.int .i64 b.makes, .int .i64 b.per, .int .i64 b.time, .slice b.addr b.needs.length b.cap, .int .i64 b.copy, .int .i64 b.study, .int .i64 b.most], .int .i64 0] W fun e w' => e = .returned (.tuple #[.agg #[.int .i64 0, .int .i64 0], .int .i64 1]) ∧ Below W.heap.size W w') := fun W h => by
        have := makes_any b 0 W (HB.out.below h)
        rwa [hM2] at this
      subst k2
      clear HV HO hok z0 z1 z2 z3 hp1 hp2 k1 hM1 hM2
      generalize b.per * 1 = P1 at *
      unfold BlueIn.val
      go_enter Try.func5, Try.ntmps5
      go_wp2_with (first
        | (go_at_call 7; ((with_reducible refine (awake_any _).mono ?_); rintro e w4 ⟨rfl, hb4⟩))
        | (go_at_call 10; ((with_reducible refine (C3.out _ (below_al hB2.out _)).mono ?_); rintro e w3 ⟨rfl, hb3⟩; have hB3 := Lib.hid (below2 (below_al hB2.out _) hb3); have X3 := Lib.hid (boxed_next hb3 (lt_alloc _ s2.out) (boxed_alloc _ s2.out X2.out)); have s3 := Lib.hid (lt_next hb3 (lt_alloc _ s2.out)); clear c0 c1 c2 c3 c4 c5 c6; obtain ⟨c0, c1, c2, c3, c4, c5, c6⟩ := X3.out))
        | (go_at_call 10; ((with_reducible refine (C2.out _ hB1.out).mono ?_); rintro e w2 ⟨rfl, hb2⟩; have hB2 := Lib.hid (below2 hB1.out hb2); have X2 := Lib.hid (boxed_next hb2 s1.out X1.out); have s2 := Lib.hid (lt_next hb2 s1.out); clear c0 c1 c2 c3 c4 c5 c6; obtain ⟨c0, c1, c2, c3, c4, c5, c6⟩ := X2.out; have lt2 := s2.out))
        | (go_at_call 17; ((with_reducible refine (C1.out _ hbw.out).mono ?_); rintro e w1 ⟨rfl, hb1⟩; have hB1 := Lib.hid (hbw.out.trans (hb1.mono (by simp))); have X1 := Lib.hid (boxed_first hb1); have s1 := Lib.hid (box_lt hb1); obtain ⟨c0, c1, c2, c3, c4, c5, c6⟩ := X1.out)))
      go_ret
      exact ⟨rfl, below2 (below_al hB3.out _) hb4⟩
    · have d6 : (K == 1) = false := beq_eq_false_iff_ne.2 k2
      have d7 : decide ((1 : Int) < K) = true := decide_eq_true (by omega)
      obtain ⟨KK, qK, zK⟩ : ∃ P, wrap64 (K - 1) = P ∧ P = K - 1 := ⟨_, by unfold wrap64; omega, rfl⟩
      rw [← zK] at z2
      have hM2 : makesV b KK = ((b.makes, b.per * KK), 0) := by unfold makesV; rw [ok1_mk hK (by omega) (by omega)]; rfl
      have C3 : Hid (∀ W : World, Below w.heap.size w W → Calls Try.prog 10 #[.agg #[.int .i64 b.makes, .int .i64 b.per, .int .i64 b.time, .slice b.addr b.needs.length b.cap, .int .i64 b.copy, .int .i64 b.study, .int .i64 b.most], .int .i64 KK] W fun e w' => e = .returned (.tuple #[.agg #[.int .i64 b.makes, .int .i64 (b.per * KK)], .int .i64 0]) ∧ Below W.heap.size W w') := fun W h => by
        have := makes_any b KK W (HB.out.below h)
        rwa [hM2] at this
      have d8 : decide (b.per * KK < M) = true := decide_eq_true z2
      clear zK
      clear HV HO hok z0 z1 z2 z3 hp1 hp2 k1 hM1 hM2
      generalize b.per * K = P1 at *
      generalize b.per * KK = P2 at *
      unfold BlueIn.val
      go_enter Try.func5, Try.ntmps5
      go_wp2_with (first
        | (go_at_call 7; ((with_reducible refine (awake_any _).mono ?_); rintro e w4 ⟨rfl, hb4⟩))
        | (go_at_call 10; ((with_reducible refine (C3.out _ (below_al hB2.out _)).mono ?_); rintro e w3 ⟨rfl, hb3⟩; have hB3 := Lib.hid (below2 (below_al hB2.out _) hb3); have X3 := Lib.hid (boxed_next hb3 (lt_alloc _ s2.out) (boxed_alloc _ s2.out X2.out)); have s3 := Lib.hid (lt_next hb3 (lt_alloc _ s2.out)); clear c0 c1 c2 c3 c4 c5 c6; obtain ⟨c0, c1, c2, c3, c4, c5, c6⟩ := X3.out))
        | (go_at_call 10; ((with_reducible refine (C2.out _ hB1.out).mono ?_); rintro e w2 ⟨rfl, hb2⟩; have hB2 := Lib.hid (below2 hB1.out hb2); have X2 := Lib.hid (boxed_next hb2 s1.out X1.out); have s2 := Lib.hid (lt_next hb2 s1.out); clear c0 c1 c2 c3 c4 c5 c6; obtain ⟨c0, c1, c2, c3, c4, c5, c6⟩ := X2.out; have lt2 := s2.out))
        | (go_at_call 17; ((with_reducible refine (C1.out _ hbw.out).mono ?_); rintro e w1 ⟨rfl, hb1⟩; have hB1 := Lib.hid (hbw.out.trans (hb1.mono (by simp))); have X1 := Lib.hid (boxed_first hb1); have s1 := Lib.hid (box_lt hb1); obtain ⟨c0, c1, c2, c3, c4, c5, c6⟩ := X1.out)))
      go_ret
      exact ⟨rfl, below2 (below_al hB3.out _) hb4⟩
end Rec
end Go.Proofs.Ytblefohjnmmpmaa
