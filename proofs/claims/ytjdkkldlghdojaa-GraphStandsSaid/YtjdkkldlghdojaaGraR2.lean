/- The reference's Order: the walk. -/
import Derived.Test.YtjdkkldlghdojaaGraR
import Derived.Deep.DeepMust
namespace Go.Proofs.Ytjdkkldlghdojaa
open Go.RowKit
namespace Gra
open In (Ints IsInts)
def rdTo (E : List (Int × Int)) (out : List Int) (k : Int) (i : Nat) : Bool := !(out.contains k) && (E.take i).all (fun e => e.1 != k || out.contains e.2)
theorem rdTo_succ (E : List (Int × Int)) (out : List Int) (k : Int) (i : Nat) (h : i < E.length) : rdTo E out k (i + 1) = (rdTo E out k i && ((E.getD i (0, 0)).1 != k || out.contains (E.getD i (0, 0)).2)) := by
  unfold rdTo
  rw [take_snoc E i h, List.all_append, Bool.and_assoc]
  congr 2
  simp
theorem rdTo_zero (E : List (Int × Int)) (out : List Int) (k : Int) : rdTo E out k 0 = !(out.contains k) := by unfold rdTo; simp
theorem rdTo_end (E : List (Int × Int)) (out : List Int) (k : Int) : rdTo E out k E.length = rdy E out k := by unfold rdTo rdy; rw [List.take_length]
theorem isPick_start (n : Nat) (E : List (Int × Int)) (out : List Int) : IsPick (n + 1) n E out 0 := .inl ⟨rfl, fun k h1 h2 => by omega⟩
theorem isPick_yes {k n : Nat} {E : List (Int × Int)} {out : List Int} (hk : k ≤ n) (hr : rdy E out (k : Int) = true) : IsPick k n E out (k : Int) :=
  .inr ⟨k, rfl, Nat.le_refl _, hk, hr, fun j h1 h2 => by omega⟩
theorem isPick_no {k n : Nat} {E : List (Int × Int)} {out : List Int} {v : Int} (h : IsPick (k + 1) n E out v) (hr : rdy E out (k : Int) = false) : IsPick k n E out v := by
  rcases h with ⟨rfl, h⟩ | ⟨p, rfl, h1, h2, h3, h4⟩
  · refine .inl ⟨rfl, fun j h1 h2 => ?_⟩
    by_cases e : j = k
    · subst e; exact hr
    · exact h j (by omega) h2
  · refine .inr ⟨p, rfl, by omega, h2, h3, fun j a b => ?_⟩
    by_cases e : j = k
    · subst e; exact hr
    · exact h4 j (by omega) b
theorem isPick_top {n : Nat} {E : List (Int × Int)} {out : List Int} {v : Int} (h : IsPick 1 n E out v) : v ≤ (n : Int) ∧ 0 ≤ v := by
  rcases h with ⟨rfl, _⟩ | ⟨p, rfl, h1, h2, _⟩ <;> omega
set_option maxRecDepth 100000 in
set_option maxHeartbeats 8000000 in
theorem refOrder_core (n : Int) (a : Option Addr) (cap : Nat) (l : List (Int × Int)) (w : World) (ha : Prs w a l) :
    Calls Try.prog 11 #[.int .i64 n, .slice a l.length cap] w (ListOut (ordRes n l) w) := by
  have CM := Lib.hid (may_any n a cap l w ha)
  have HA := Lib.hid ha
  clear ha
  by_cases hg : Good n l
  · rw [decide_eq_true hg] at CM
    obtain ⟨N, hN⟩ : ∃ N : Nat, n = (N : Int) := ⟨n.toNat, by have := hg.1; omega⟩
    subst hN
    have HG := Lib.hid hg
    have hN64 : (N : Int) < 65 := by have := hg.2.1; omega
    have hL : l.length ≤ 256 := hg.2.2.1
    have hL1 : (l.length : Int) < 257 := by omega
    obtain ⟨i0, hi, hz0, hz1, hz2⟩ := info_parts info3
    have HR : Hid (ordRes (N : Int) l = if (ord N l).length < N then ([], 9) else (ord N l, 0)) := by show _ = _; unfold ordRes; rw [if_pos HG.out]; simp
    clear hg
    go_enter Try.func11, Try.ntmps11
    go_wp2_with (go_at_call 21; ((with_reducible refine CM.out.mono ?_); rintro e w1 ⟨rfl, hB1⟩; have HB1 := Lib.hid hB1; clear hB1))
    go_loopg [6] N (fun gk v6 wr => ∃ (j : Nat), Hid (gk + j = N) ∧ Hid ((ordG N l j).length = j) ∧ Hid (wr.ownsRow w.heap.size 3 1 v6 (ordG N l j).length ((ordG N l j).map (Value.int .i64))) ∧ Hid (Below w.heap.size w wr))
    case atStart => exact ⟨0, by show _ = _; omega, rfl, World.ownsRow_nil _ _ _ _, HB1⟩
    case round =>
      obtain ⟨G0, rfl⟩ : ∃ G0 : Nat, G0 = gk := ⟨_, rfl⟩
      obtain ⟨j, hj, HJ, HO, HB⟩ := hrel
      obtain ⟨av, cv, ev⟩ := own_slice HO.out
      rw [ev] at HO ⊢
      clear ev
      obtain ⟨out, hout⟩ : ∃ o, Hid (ordG N l j = o) := ⟨_, rfl⟩
      rw [hout.out] at HO HJ ⊢
      have HI : Hid (Ints .i64 wr av out) := by
        rcases HO.out.2 with ⟨e, h0⟩ | ⟨g', cap, cur, hv, _⟩
        · intro i hi; omega
        · cases hv; exact (RowAt.of_own HO.out).ints .i64 _ rfl
      have hjN : out.length ≤ N := by have := hj.out; have := HJ.out; omega
      have hjL : (out.length : Int) < 65 := by omega
      by_cases hlt : out.length < N
      · have hlt1 : (out.length : Int) < (N : Int) := by omega
        replace hlt := Lib.hid hlt
        replace hjN := Lib.hid hjN
        go_wp2
        go_loop [7, 8] (fun v7 v8 => ∃ (k : Nat) (v : Int), k ≤ N ∧ v8 = .int .i64 (k : Int) ∧ v7 = .int .i64 v ∧ Hid (IsPick (k + 1) N l out v)) (fun _ v8 => (intOf v8).toNat)
        case atStart => exact ⟨N, 0, by omega, rfl, rfl, isPick_start _ _ _⟩
        case round =>
          obtain ⟨k, v, hk, rfl, rfl, HV⟩ := hrel
          by_cases hk1 : 1 ≤ k
          · obtain ⟨K, hK⟩ : ∃ K : Int, Hid ((k : Int) = K) := ⟨_, rfl⟩
            have hK1 : (1 : Int) ≤ K := by have := hK.out; omega
            have hK2 : K < 65 := by have := hK.out; omega
            have CI : Hid (∀ x, Calls _ _ _ _ _) := fun x => in_any av cv out (by omega) x wr HI.out
            have RZ := Lib.hid (rdTo_zero l out K)
            rw [hK.out]
            generalize hb0 : out.contains K = B0 at RZ
            replace hb0 := Lib.hid hb0
            go_wp2_with (go_at_call 22; ((with_reducible refine (CI.out _).mono ?_); rintro e w2 ⟨rfl, rfl⟩; rw [hb0.out]))
            go_loop [9, 10] (fun v9 v10 => ∃ (i : Nat) (R : Bool), i ≤ l.length ∧ v10 = .int .i64 (i : Int) ∧ v9 = .bool R ∧ Hid (R = rdTo l out K i)) (fun _ v10 => l.length - (intOf v10).toNat)
            case atStart => exact ⟨0, _, by omega, rfl, rfl, RZ.out.symm⟩
            case round =>
              obtain ⟨i, R, hi2, rfl, rfl, HRD⟩ := hrel
              by_cases hlti : i < l.length
              · obtain ⟨b, off, ea, hb, c0, c1⟩ := (Prs.below HA.out HB.out) i hlti
                rw [ea]
                replace ea := Lib.hid ea
                have hlti1 : (i : Int) < (l.length : Int) := by omega
                have hi0 : (0 : Int) ≤ (i : Int) := by omega
                have RS := Lib.hid (rdTo_succ l out K i hlti)
                rw [← HRD.out] at RS
                obtain ⟨p, hp⟩ : ∃ A, Hid ((l.getD i (0, 0)).1 = A) := ⟨_, rfl⟩
                obtain ⟨q, hq⟩ : ∃ A, Hid ((l.getD i (0, 0)).2 = A) := ⟨_, rfl⟩
                rw [hp.out] at c0 RS
                rw [hq.out] at c1 RS
                cases R with
                | false =>
                  have RS2 : Hid (rdTo l out K (i + 1) = false) := RS.out
                  go_wp2
                  go_round
                  case rel => exact ⟨i + 1, false, by omega, by go_num, rfl, RS2.out.symm⟩
                  case measure => simp [intOf]; omega
                | true =>
                  by_cases g : p = K
                  · have d1 : (p == K) = true := by simp [g]
                    have d2 : (p != K) = false := by simp [g]
                    generalize hb1 : out.contains q = B1 at RS
                    replace hb1 := Lib.hid hb1
                    have RS2 : Hid (rdTo l out K (i + 1) = B1) := by show _ = _; rw [RS.out, d2]; simp
                    clear g
                    go_wp2_with (go_at_call 22; ((with_reducible refine (CI.out _).mono ?_); rintro e w2 ⟨rfl, rfl⟩; rw [hb1.out]))
                    go_round
                    case rel => exact ⟨i + 1, B1, by omega, by go_num, by simp, RS2.out.symm⟩
                    case measure => simp [intOf]; omega
                  · have d1 : (p == K) = false := beq_eq_false_iff_ne.2 g
                    have d2 : (p != K) = true := by simp [g]
                    have RS2 : Hid (rdTo l out K (i + 1) = true) := by show _ = _; rw [RS.out, d2]; simp
                    clear g
                    go_wp2
                    go_round
                    case rel => exact ⟨i + 1, true, by omega, by go_num, rfl, RS2.out.symm⟩
                    case measure => simp [intOf]; omega
              · have hie : i = l.length := by omega
                have hge : ¬ (i : Int) < (l.length : Int) := by omega
                have hrd : R = rdy l out (k : Int) := by rw [HRD.out, hie, rdTo_end, hK.out]
                have hK3 : Hid (K - 1 = ((k - 1 : Nat) : Int)) := by have := hK.out; show _ = _; omega
                have HM : Hid (K.toNat = k ∧ 1 ≤ k) := ⟨by have := hK.out; omega, hk1⟩
                cases R with
                | false =>
                  have HV2 := Lib.hid (isPick_no HV.out hrd.symm)
                  clear hlti hie hrd
                  go_wp2
                  go_round
                  case rel => exact ⟨k - 1, v, by omega, by rw [hK3.out], rfl, by rw [show k - 1 + 1 = k by omega]; exact HV2.out⟩
                  case measure =>
                    rw [hK3.out]
                    have := HM.out
                    simp only [intOf]
                    omega
                | true =>
                  have HV2 : Hid (IsPick k N l out K) := by rw [← hK.out]; exact isPick_yes hk hrd.symm
                  clear hlti hie hrd
                  go_wp2
                  go_round
                  case rel => exact ⟨k - 1, K, by omega, by rw [hK3.out], rfl, by rw [show k - 1 + 1 = k by omega]; exact HV2.out⟩
                  case measure =>
                    rw [hK3.out]
                    have := HM.out
                    simp only [intOf]
                    omega
          · have hk0 : k = 0 := by omega
            subst hk0
            have hpv : v = pick N l out := pick_uniq HV.out (pick_is N l out)
            have hvb := isPick_top HV.out
            by_cases hv0 : v = 0
            · have d0 : (v == 0) = true := by simp [hv0]
              have HS : Hid ((ord N l).length < N) := by
                have e := ord_stop (n := N) (E := l) (j := j) (by rw [hout.out]; exact HJ.out) (by rw [hout.out, ← hpv]; exact hv0)
                show _ < _
                rw [e, hout.out]; exact hlt.out
              clear hv0 hpv hvb hk1
              go_wp2
              go_ret2
              rw [if_pos HS.out] at HR
              rw [HR.out]
              exact ⟨_, _, rfl, fun i hi => absurd hi (Nat.not_lt_zero i), HB.out⟩
            · have d0 : (v == 0) = false := beq_eq_false_iff_ne.2 hv0
              have HGo : Hid (ordG N l (j + 1) = out ++ [v]) := by
                have := ordG_go (n := N) (E := l) (j := j) (by rw [hout.out, ← hpv]; exact hv0)
                rw [hout.out, ← hpv] at this
                exact this
              have HJ2 : Hid (j + 1 ≤ N) := by have := hlt.out; have := HJ.out; show _ ≤ _; omega
              have hv1 : 0 ≤ v := hvb.2
              have hv2 : v < 65 := by omega
              have HJL : Hid (out.length ≤ 64) := by show _ ≤ _; omega
              clear hv0 hpv hvb hk1
              go_wp2_with (at_builtin; go_must (refine Own.list_one rfl (.tmp 57) (.tmp 59) 30 rfl w.heap.size 3 i0 _ 8 Try.underlying30 hi hz0 hz1 hz2 rfl _ _ _ rfl _ _ _ rfl (HO.out.alloc _) (Own.cell_new _ _ _) rfl ?h1 ?h2 ?h3 ?_; (case h1 => have := HJL.out; unfold maxLen; omega); (case h2 => have := HJL.out; omega); (case h3 => have := HB.out.size; simp; omega); intro v3' w3 hown3 hgrow3; have HB3 := Lib.hid ((HB.out.alloc HB.out.size _).grown hgrow3 (by have := HB.out.size; simp; omega) (Own.own_block HO.out (Nat.le_refl _))); have HO3 := Lib.hid hown3; clear hown3 hgrow3))
              go_roundg (G0 - 1)
              case measure => have := hj.out; have := HJ2.out; omega
              case rel => exact ⟨j + 1, (by have := hj.out; have := HJ2.out; show _ = _; omega), (by show _ = _; rw [HGo.out, List.length_append, HJ.out]; rfl), by rw [HGo.out, List.length_append, List.map_append]; exact HO3, HB3⟩
      · have hge : ¬ (out.length : Int) < (N : Int) := by omega
        have HS : Hid (¬ (ord N l).length < N ∧ ord N l = out) := by
          have e := ord_full (n := N) (E := l) (j := j) (by rw [hout.out]; exact HJ.out) (by have := HJ.out; omega)
          rw [hout.out] at e
          exact ⟨by rw [e]; exact hlt, e⟩
        replace hlt := Lib.hid hlt
        clear hjN
        go_wp2
        go_ret2
        rw [if_neg HS.out.1] at HR
        rw [HR.out, HS.out.2]
        exact ⟨_, _, rfl, HI.out, HB.out⟩
  · rw [decide_eq_false hg] at CM
    have HR : Hid (ordRes n l = ([], 1)) := by show _ = _; unfold ordRes; rw [if_neg hg]
    clear hg
    go_enter Try.func11, Try.ntmps11
    go_wp2_with (go_at_call 21; ((with_reducible refine CM.out.mono ?_); rintro e w1 ⟨rfl, hB1⟩; have HB1 := Lib.hid hB1; clear hB1))
    go_ret2
    rw [HR.out]
    exact ⟨_, _, rfl, fun i hi => absurd hi (Nat.not_lt_zero i), HB1.out⟩
end Gra
end Go.Proofs.Ytjdkkldlghdojaa
