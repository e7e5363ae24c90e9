/- All shares together are what was shared: the law's walk. -/
import Derived.Test.YtbfcgaijplhcoaaFeeG
namespace Go.Proofs.Ytbfcgaijplhcoaa
open Go.Sort Go.RowKit
namespace Fee
open In (Ints IsInts)
theorem ints_cell {w : World} {b o : Nat} {l : List Int} (h : Ints .i64 w (some ⟨b, o, none⟩) l) {i : Nat} (hi : i < l.length) : w.cell? ⟨b, o + i, none⟩ = some (.int .i64 (l.getD i 0)) := by
  obtain ⟨b', o', e, _, hc⟩ := h i hi
  cases e
  exact hc
theorem ints_drewN {w : World} {a : Option Addr} {l : List Int} (h : Ints .i64 w a l) (n : Nat) : Ints .i64 (w.drewN n) a l := h
set_option maxRecDepth 100000 in
set_option maxHeartbeats 8000000 in
theorem whole_walk (w : World) (n : Int) (_hn : (Lit.int .i64 n).wf = true) (v : Value) (l : List Int) (hv : IsInts .i64 w v l) :
    Calls Try.prog 4 #[.int .i64 n, v] w fun e w' => e = .returned (.bool true) ∧ Below w.heap.size w w' := by
  obtain ⟨a, cap, rfl, hm, ha, _, _, _⟩ := hv
  unfold maxLen at hm
  by_cases h1 : l.length < 1
  · have d1 : decide ((l.length : Int) < 1) = true := decide_eq_true (by omega)
    clear h1
    go_enter Try.func4, Try.ntmps4
    go_wp2_with (go_at_call 6; ((with_reducible refine (awake_any _).mono ?_); rintro e w1 ⟨rfl, hb1⟩))
    go_ret
    exact ⟨rfl, hb1⟩
  have d1 : decide ((l.length : Int) < 1) = false := decide_eq_false (by omega)
  by_cases h2 : 16 < l.length
  · have d2 : decide ((16 : Int) < (l.length : Int)) = true := decide_eq_true (by omega)
    clear h1 h2
    go_enter Try.func4, Try.ntmps4
    go_wp2_with (go_at_call 6; ((with_reducible refine (awake_any _).mono ?_); rintro e w1 ⟨rfl, hb1⟩))
    go_ret
    exact ⟨rfl, hb1⟩
  have d2 : decide ((16 : Int) < (l.length : Int)) = false := decide_eq_false (by omega)
  have HA := Lib.hid ha
  have HL : Hid (1 ≤ l.length ∧ l.length ≤ 16) := ⟨by omega, by omega⟩
  obtain ⟨i0, hi, hz0, hz1, hz2⟩ := info_parts info3
  obtain ⟨N2, hN, hN2⟩ : ∃ A, bits .and .i64 n 1099511627775 = A ∧ Hid (A = wk n) := ⟨_, rfl, i64_and40 n⟩
  have CS : Hid (∀ W a c, Ints .i64 W a (ws l) → Calls Try.prog 7 #[.int .i64 N2, .slice a l.length c] W (SplitOut (splitV (wk n) (ws l)).1 (splitV (wk n) (ws l)).2 W)) := fun W a c h => by
    have := split_any (wk n) (ws l) a c (by rw [ws_len]; omega) W h
    rw [ws_len] at this
    rw [hN2.out]; exact this
  have hl16 : l.length ≤ 16 := by omega
  clear ha h1 h2 hm
  go_enter Try.func4, Try.ntmps4
  go_wp2
  go_loopw [5, 6, 7] (fun v5 v6 v7 wr => ∃ (k : Nat) (S : Int), k ≤ l.length ∧ v7 = .int .i64 k ∧ v6 = .int .i64 S ∧ Hid (S = smTo (ws l) k) ∧ Hid (wr.ownsRow w.heap.size 3 1 v5 k (((ws l).take k).map (Value.int .i64))) ∧ Hid (Below w.heap.size w wr)) (fun _ _ v7 _ => l.length - (intOf v7).toNat)
  case atStart => exact ⟨0, 0, by omega, rfl, rfl, rfl, World.ownsRow_nil _ _ _ _, Below.refl _ _⟩
  case round =>
    obtain ⟨k, S, hk, rfl, rfl, HS, HO, HB⟩ := hrel
    by_cases hlt : k < l.length
    · have hx := In.Ints.below HA.out HB.out
      obtain ⟨b, off, ea, hb, hc⟩ := hx k hlt
      rw [ea]
      replace ea := Lib.hid ea
      clear hx
      have hlt1 : (k : Int) < (l.length : Int) := by omega
      have HT : Hid ((ws l).take (k + 1) = (ws l).take k ++ [wk (l.getD k 0)]) := ws_take l k hlt
      have HS2 : Hid (smTo (ws l) (k + 1) = smTo (ws l) k + wk (l.getD k 0)) := by show _ = _; rw [smTo, ws_get]
      have hsb := ws_sum l k
      have hwb := wk_bd (l.getD k 0)
      obtain ⟨X, hX⟩ : ∃ A : Int, Hid (l.getD k 0 = A) := ⟨_, rfl⟩
      rw [hX.out] at hc HT HS2 hwb
      obtain ⟨Y, hY, hY2⟩ : ∃ A, bits .and .i64 X 1099511627775 = A ∧ Hid (A = wk X) := ⟨_, rfl, i64_and40 X⟩
      rw [← HS.out] at hsb HS2
      rw [← hY2.out] at HT HS2 hwb
      obtain ⟨S2, wS, hS2⟩ : ∃ A, wrap64 (S + Y) = A ∧ Hid (A = smTo (ws l) (k + 1)) := ⟨S + Y, by unfold wrap64; omega, HS2.out.symm⟩
      clear hsb hwb
      go_wp2_with (at_builtin; refine Own.lies_one rfl (.tmp 31) (.tmp 37) 22 rfl w.heap.size 3 i0 _ 8 Try.underlying22 hi hz0 hz1 hz2 rfl _ k _ rfl _ _ _ rfl (HO.out.alloc _) (Own.cell_new _ _ _) rfl ?h1 ?h2 ?h3 (wr.heap.size + 1) (by simp) ?_; (case h1 => have := HL.out; unfold maxLen; omega); (case h2 => have := HL.out; omega); (case h3 => have := HB.out.size; simp; omega); intro g8 cap8 w2 hown8 hgrow8 hat8 hlt8; have HB2 := Lib.hid ((below_al HB.out _).grown hgrow8 (below_al HB.out _).size (Own.own_block HO.out (Nat.le_refl _))); have HO2 := Lib.hid hown8; clear hown8; have hc2 : w2.cell? ⟨b, off + k, none⟩ = some (.int .i64 X) := by { obtain ⟨b', off', ea', _, hc'⟩ := (In.Ints.below HA.out HB2.out) k hlt; rw [hX.out] at hc'; rw [ea.out] at ea'; cases ea'; exact hc' })
      go_roundw
      case rel => exact ⟨k + 1, S2, by omega, by go_num, by rw [wS], hS2, by rw [HT.out, List.map_append]; exact HO2, HB2⟩
      case measure => simp [intOf]; omega
    · have hke : k = l.length := by omega
      subst hke
      obtain ⟨g5, cap5, rfl, hg5, hl5⟩ := HO.out.form HL.out.1
      have R5 : Hid (RowAt wr g5 ((ws l).map (Value.int .i64))) := by
        have := RowAt.of_own HO.out
        rwa [List.take_of_length_le (by rw [ws_len]; exact Nat.le_refl _)] at this
      have I5 : Hid (Ints .i64 wr (some ⟨g5, 0, none⟩) (ws l)) := R5.out.ints .i64 _ rfl
      have hge : ¬ (l.length : Int) < (l.length : Int) := by omega
      by_cases h0 : S = 0
      · subst h0
        have hV := splitV_zero n l HL.out.1 HL.out.2 HS.out.symm
        rw [hV] at CS
        replace CS : Hid (∀ W a c, Ints .i64 W a (ws l) → Calls Try.prog 7 #[.int .i64 N2, .slice a l.length c] W (SplitOut [] 1 W)) := CS.out
        clear hV hg5 hl5 HO hlt hk
        go_wp2_with (first
          | (go_at_call 7; ((with_reducible refine (CS.out _ _ _ I5.out).mono ?_); rintro e w2 ⟨a2, c2, rfl, _, hb2⟩; have HB2 := Lib.hid (below2 HB.out hb2)))
          | (go_at_call 6; ((with_reducible refine (awake_any _).mono ?_); rintro e w3 ⟨rfl, hb3⟩; have HB3 := Lib.hid (below2 HB2.out hb3))))
        go_ret
        exact ⟨rfl, HB3.out⟩
      · have dS : (S == 0) = false := beq_eq_false_iff_ne.2 h0
        have h0' : smTo (ws l) l.length ≠ 0 := by rw [← HS.out]; exact h0
        have HG := Lib.hid (ws_good n l HL.out.1 HL.out.2 h0')
        have hV := splitV_good n l HL.out.1 HL.out.2 h0'
        rw [hV] at CS
        have hn := wk_bd n
        have hs := (ws_sum l l.length).1
        have en : (((wk n).toNat : Nat) : Int) = N2 := by rw [hN2.out]; omega
        have es : (((smTo (ws l) l.length).toNat : Nat) : Int) = S := by rw [HS.out]; omega
        have SR : Hid (∀ k, k < l.length → ∀ W, _) := fun k hk W => share_ref (wk n).toNat (smTo (ws l) l.length).toNat (ws l) HG.out k (by rw [ws_len]; exact hk) W
        rw [en, es] at SR
        have HSUM := Lib.hid HG.out.out_sum
        rw [en, ws_len] at HSUM
        have hlen := outV_len (wk n).toNat (smTo (ws l) l.length).toNat (ws l)
        rw [ws_len] at hlen
        have HNEAR : Hid (∀ i, i < l.length → _) := fun i hi => HG.out.out_near (i := i) (by rw [ws_len]; exact hi)
        have HSH : Hid (∀ i, i < l.length → _) := fun i hi => HG.out.sh_le (k := i) (by rw [ws_len]; exact hi)
        have HMONO : Hid (∀ i k, i < l.length → k < l.length → _) := fun i k hi hk => HG.out.out_mono (i := i) (k := k) (by rw [ws_len]; exact hi) (by rw [ws_len]; exact hk)
        have hnb : (wk n).toNat ≤ 1099511627775 := by omega
        clear en es hV hn hs h0 h0' HG
        have HLEN := Lib.hid hlen
        replace CS : Hid (∀ W a c, Ints .i64 W a (ws l) → Calls Try.prog 7 #[.int .i64 N2, .slice a l.length c] W (SplitOut (outV (wk n).toNat (smTo (ws l) l.length).toNat (ws l)) 0 W)) := CS.out
        generalize outV (wk n).toNat (smTo (ws l) l.length).toNat (ws l) = V at *
        generalize shI (wk n).toNat (smTo (ws l) l.length).toNat (ws l) = sh at *
        have CS2 : Hid (∀ W a c, Ints .i64 W a (ws l) → Calls Try.prog 7 #[.int .i64 N2, .slice a l.length c] W fun e w' => ∃ b o c, e = .returned (.tuple #[.slice (some ⟨b, o, none⟩) l.length c, .int .i64 0]) ∧ Hid (Ints .i64 w' (some ⟨b, o, none⟩) V) ∧ Below W.heap.size W w') := fun W a c h => (CS.out W a c h).mono fun e w' ⟨a2, c2, h1, h2, h3⟩ => by
          obtain ⟨b, o, rfl, _, _⟩ := h2 0 (by rw [hlen]; exact HL.out.1)
          rw [hlen] at h1
          exact ⟨b, o, c2, h1, h2, h3⟩
        have HNB := Lib.hid hnb
        clear CS hlen hnb hg5 hl5 HO hlt hk
        go_wp2_with (go_at_call 7; ((with_reducible refine (CS2.out _ _ _ I5.out).mono ?_); rintro e w2 ⟨b2, o2, c2, rfl, HI2, hb2⟩; have HB2 := Lib.hid (below2 HB.out hb2); have R52 := Lib.hid (R5.out.below hb2)))
        go_loopw [11, 12] (fun v11 v12 wr => ∃ (i : Nat) (T : Int), i ≤ l.length ∧ v12 = .int .i64 i ∧ v11 = .int .i64 T ∧ Hid (T = smTo V i ∧ 0 ≤ T ∧ T ≤ (i : Int) * 2199023255552) ∧ Hid (Ints .i64 wr (some ⟨b2, o2, none⟩) V) ∧ Hid (RowAt wr g5 ((ws l).map (Value.int .i64))) ∧ Hid (Below w.heap.size w wr)) (fun _ v12 _ => l.length - (intOf v12).toNat)
        case atStart => exact ⟨0, 0, by omega, rfl, rfl, ⟨rfl, by omega, by omega⟩, HI2, R52, HB2⟩
        case round =>
          obtain ⟨i, T, hk, rfl, rfl, HT, HIr, HRr, HBr⟩ := hrel
          by_cases hlt : i < l.length
          · have hlt1 : (i : Int) < (l.length : Int) := by omega
            have hdi : decide (i < l.length) = true := decide_eq_true hlt
            have hi0 : (0 : Int) ≤ (i : Int) := by omega
            have c1 := ints_cell HIr.out (i := i) (by rw [HLEN.out]; exact hlt)
            have c5 := row_get HRr.out (i := i) (by rw [ws_len]; exact hlt)
            have SR2 := Lib.hid (SR.out i hlt)
            have hne := HNEAR.out i hlt
            have hsh := HSH.out i hlt
            have hnb := HNB.out
            have ht := HT.out
            have HT2 : Hid (smTo V (i + 1) = smTo V i + V.getD i 0) := rfl
            rw [← ht.1] at HT2
            have HMO : Hid (∀ k, k < l.length → (ws l).getD i 0 < (ws l).getD k 0 → V.getD i 0 ≤ V.getD k 0) := fun k hk => HMONO.out i k hlt hk
            obtain ⟨A2, hA2⟩ : ∃ A : Int, Hid ((ws l).getD i 0 = A) := ⟨_, rfl⟩
            obtain ⟨B2, hB2⟩ : ∃ A : Int, Hid (V.getD i 0 = A) := ⟨_, rfl⟩
            rw [hA2.out] at c5 SR2 HMO
            rw [hB2.out] at c1 hne HT2 HMO
            have e1 : decide (B2 < (sh i : Int)) = false := decide_eq_false (by omega)
            obtain ⟨Q, hQ⟩ : ∃ A : Int, Hid ((sh i : Int) = A) := ⟨_, rfl⟩
            rw [hQ.out] at e1 SR2 hne
            have hq2 : Q ≤ 1099511627775 ∧ 0 ≤ Q := by rw [← hQ.out]; omega
            obtain ⟨Q1, wQ, hQ1⟩ : ∃ A, wrap64 (Q + 1) = A ∧ A = Q + 1 := ⟨Q + 1, by unfold wrap64; omega, rfl⟩
            have e2 : decide (Q1 < B2) = false := decide_eq_false (by omega)
            obtain ⟨T2, wT, hT2⟩ : ∃ A, wrap64 (T + B2) = A ∧ Hid (A = smTo V (i + 1) ∧ 0 ≤ A ∧ A ≤ ((i + 1 : Nat) : Int) * 2199023255552) := ⟨T + B2, by unfold wrap64; omega, HT2.out.symm, by omega, by omega⟩
            clear hne hsh hnb ht hQ1 hq2
            go_wp2_with (go_at_call 10; ((with_reducible refine (SR2.out _).mono ?_); rintro e w3 ⟨rfl, rfl⟩))
            obtain ⟨wo, rfl⟩ : ∃ wo : World, wo = wr := ⟨_, rfl⟩
            clear c1 c5 wQ
            go_loopw [15] (fun v15 wr3 => ∃ j : Nat, j ≤ l.length ∧ v15 = .int .i64 j ∧ Hid (Ints .i64 wr3 (some ⟨b2, o2, none⟩) V) ∧ Hid (RowAt wr3 g5 ((ws l).map (Value.int .i64))) ∧ Hid (Below w.heap.size w wr3)) (fun v15 _ => l.length - (intOf v15).toNat)
            case atStart => exact ⟨0, by omega, rfl, HIr, HRr, HBr⟩
            case round =>
              obtain ⟨j, hj, rfl, HI3, HR3, HB3⟩ := hrel
              by_cases hjl : j < l.length
              · have hjl1 : (j : Int) < (l.length : Int) := by omega
                have hj0 : (0 : Int) ≤ (j : Int) := by omega
                have c1 := ints_cell HI3.out (i := i) (by rw [HLEN.out]; exact hlt)
                have c5 := row_get HR3.out (i := i) (by rw [ws_len]; exact hlt)
                have k1 := ints_cell HI3.out (i := j) (by rw [HLEN.out]; exact hjl)
                have k5 := row_get HR3.out (i := j) (by rw [ws_len]; exact hjl)
                have hmo := HMO.out j hjl
                rw [hA2.out] at c5
                rw [hB2.out] at c1
                generalize (ws l).getD j 0 = A1 at *
                generalize V.getD j 0 = B1 at *
                by_cases g : A2 < A1
                · have f1 : decide (A2 < A1) = true := decide_eq_true g
                  have f2 : decide (B1 < B2) = false := decide_eq_false (by have := hmo g; omega)
                  clear hmo
                  go_wp2
                  go_quiet (fail)
                  go_wp2
                  go_roundw
                  case rel => exact ⟨j + 1, by omega, by go_num, HI3, HR3, below_dN HB3.out _⟩
                  case measure => simp [intOf]; omega
                · have f1 : decide (A2 < A1) = false := decide_eq_false g
                  clear hmo
                  go_wp2
                  go_quiet (fail)
                  go_wp2
                  go_roundw
                  case rel => exact ⟨j + 1, by omega, by go_num, HI3, HR3, below_dN HB3.out _⟩
                  case measure => simp [intOf]; omega
              · have hjge : ¬ (j : Int) < (l.length : Int) := by omega
                clear hjl
                go_wp2
                go_roundw
                case rel => exact ⟨i + 1, T2, by omega, by go_num, by first | rfl | rw [wT], hT2, HI3, HR3, HB3⟩
                case measure => simp [intOf]; omega
          · have hie : i = l.length := by omega
            have e0 : T = N2 := by rw [HT.out.1, hie]; exact HSUM.out
            subst e0
            have hige : ¬ (i : Int) < (l.length : Int) := by omega
            clear hlt hie
            go_wp2_with (go_at_call 6; ((with_reducible refine (awake_any _).mono ?_); rintro e w3 ⟨rfl, hb3⟩; have HB3 := Lib.hid (below2 HBr.out hb3)))
            go_ret
            exact ⟨rfl, HB3.out⟩
end Fee
end Go.Proofs.Ytbfcgaijplhcoaa
