/- The reference's Split: the walk, where the weights may be. -/
import Derived.Test.YtbfcgaijplhcoaaFeeB
import Derived.Test.YtbfcgaijplhcoaaFeeS
import Derived.Test.YtbfcgaijplhcoaaFeeM
namespace Go.Proofs.Ytbfcgaijplhcoaa
open Go.Sort Go.RowKit
namespace Fee
open In (Ints IsInts)
theorem share_ref (n s : Nat) (l : List Int) (hg : Good n s l) (k : Nat) (hk : k < l.length) (w : World) :
    Calls Try.prog 10 #[.int .i64 (n : Int), .int .i64 (l.getD k 0), .int .i64 (s : Int), .bool false] w fun e w' => e = .returned (.tuple #[.int .i64 (shI n s l k : Int), .int .i64 0]) ∧ w = w' := by
  have := refScale_small n (wN l k) s false hg.n2 (hg.w_le hk) hg.s1 hg.s2 w
  rw [(hg.at hk).1] at this
  exact this
theorem left_ref (n s : Nat) (l : List Int) (hg : Good n s l) (k : Nat) (hk : k < l.length) (w : World) :
    Calls Try.prog 26 #[.int .i64 (n : Int), .int .i64 (l.getD k 0), .int .i64 (s : Int)] w fun e w' => e = .returned (.int .i64 (lfI n s l k : Int)) ∧ w = w' := by
  have := left_any n (wN l k) s hg.n2 (hg.at hk).2 hg.s1 hg.s2 w
  rw [(hg.at hk).1] at this
  exact this
theorem row_get {w : World} {g : Nat} {l : List Int} (h : RowAt w g (l.map (Value.int .i64))) {i : Nat} (hi : i < l.length) : w.cell? ⟨g, i, none⟩ = some (.int .i64 (l.getD i 0)) :=
  h.cell (by rw [List.getElem?_map, List.getElem?_eq_getElem hi, List.getD_eq_getElem?_getD, List.getElem?_eq_getElem hi]; rfl)
set_option maxRecDepth 100000 in
set_option maxHeartbeats 8000000 in
theorem refSplit_core (n s : Nat) (l : List Int) (a : Option Addr) (cap : Nat) (hg : Good n s l) (w : World) (ha : Ints .i64 w a l) :
    Calls Try.prog 8 #[.int .i64 (n : Int), .slice a l.length cap] w (SplitOut (outV n s l) 0 w) := by
  have HA := Lib.hid ha
  have HG := Lib.hid hg
  have CM : Hid (∀ k, k < l.length → ∀ W, _) := fun k hk W => share_ref n s l hg k hk W
  have CD : Hid (∀ k, k < l.length → ∀ W, _) := fun k hk W => left_ref n s l hg k hk W
  obtain ⟨i0, hi, hz0, hz1, hz2⟩ := info_parts info3
  have hn2 := hg.n2
  have hs1 := hg.s1
  have hs2 := hg.s2
  have hl1 := hg.len1
  have hl16 := hg.len2
  have HL : Hid (l.length ≤ 16) := hl16
  obtain ⟨N, hN⟩ : ∃ A : Int, Hid ((n : Int) = A) := ⟨_, rfl⟩
  obtain ⟨S, hS⟩ : ∃ A : Int, Hid ((s : Int) = A) := ⟨_, rfl⟩
  have dN1 : decide (N < 0) = false := decide_eq_false (by rw [← hN.out]; omega)
  have dN2 : decide (1152921504606846976 < N) = false := decide_eq_false (by rw [← hN.out]; omega)
  have dS : (S == 0) = false := beq_eq_false_iff_ne.2 (by rw [← hS.out]; omega)
  have dL1 : decide ((l.length : Int) < 1) = false := decide_eq_false (by omega)
  have dL2 : decide ((16 : Int) < (l.length : Int)) = false := decide_eq_false (by omega)
  rw [hN.out] at CM CD ⊢
  rw [hS.out] at CM CD
  clear hg ha hn2 hs1 hs2 hl1
  go_enter Try.func8, Try.ntmps8
  go_wp2
  go_loop [7] (fun v7 => ∃ k : Nat, k ≤ l.length ∧ v7 = .int .i64 k) (fun v7 => l.length - (intOf v7).toNat)
  case atStart => exact ⟨0, by omega, rfl⟩
  case round =>
    obtain ⟨k, hk, rfl⟩ := hrel
    by_cases hlt : k < l.length
    · obtain ⟨b, off, rfl, hb, hc⟩ := HA.out k hlt
      have hlt1 : (k : Int) < (l.length : Int) := by omega
      have hr := inR_yes (monTo_at l l.length k HG.out.mon hlt)
      generalize l.getD k 0 = X at *
      have d1 : decide (X < 0) = false := decide_eq_false (by omega)
      have d2 : decide (1152921504606846976 < X) = false := decide_eq_false (by omega)
      go_wp2
      go_round
      case rel => exact ⟨k + 1, by omega, by go_num⟩
      case measure => simp [intOf]; omega
    · have hge : ¬ (k : Int) < (l.length : Int) := by omega
      clear hlt
      go_wp2
      go_loop [6, 8] (fun v6 v8 => ∃ (k : Nat) (M : Int), k ≤ l.length ∧ v8 = .int .i64 k ∧ v6 = .int .i64 M ∧ Hid (M = smTo l k)) (fun _ v8 => l.length - (intOf v8).toNat)
      case atStart => exact ⟨0, 0, by omega, rfl, rfl, rfl⟩
      case round =>
        obtain ⟨k, M, hk, rfl, rfl, HM⟩ := hrel
        by_cases hlt : k < l.length
        · obtain ⟨b, off, rfl, hb, hc⟩ := HA.out k hlt
          have hlt1 : (k : Int) < (l.length : Int) := by omega
          have hr := inR_yes (monTo_at l l.length k HG.out.mon hlt)
          have m1 := smTo_mono l l.length HG.out.mon k l.length (by omega) (Nat.le_refl _)
          have m2 := smTo_mono l l.length HG.out.mon (k + 1) l.length (by omega) (Nat.le_refl _)
          have HS2 : Hid (smTo l (k + 1) = smTo l k + l.getD k 0) := rfl
          rw [HS2.out, HG.out.sum, ← HM.out] at m2
          rw [← HM.out] at m1
          rw [← HM.out] at HS2
          have hs2 := HG.out.s2
          generalize l.getD k 0 = X at *
          obtain ⟨T, wT, hT⟩ : ∃ A, wrap64 (1152921504606846976 - M) = A ∧ A = 1152921504606846976 - M := ⟨1152921504606846976 - M, by unfold wrap64; omega, rfl⟩
          have d1 : decide (T < X) = false := decide_eq_false (by omega)
          obtain ⟨M2, wM, hM2⟩ : ∃ A, wrap64 (M + X) = A ∧ Hid (A = smTo l (k + 1)) := ⟨M + X, by unfold wrap64; omega, HS2.out.symm⟩
          clear m1 m2 hr hT hs2
          go_wp2
          go_round
          case rel => exact ⟨k + 1, M2, by omega, by go_num, by rw [wM], hM2⟩
          case measure => simp [intOf]; omega
        · have hge : ¬ (k : Int) < (l.length : Int) := by omega
          have hMS : M = S := by rw [HM.out, show k = l.length by omega, ← hS.out]; exact HG.out.sum
          subst hMS
          clear hlt
          go_wp2
          go_loopw [9, 10, 11, 12] (fun v9 v10 v11 v12 wr => ∃ (k : Nat) (T : Int), k ≤ l.length ∧ v12 = .int .i64 k ∧ v11 = .int .i64 T ∧ Hid (T = (n : Int) - (sN (shI n s l) k : Int)) ∧ Hid (wr.ownsRow w.heap.size 3 1 v9 k ((shTo n s l k).map (Value.int .i64))) ∧ Hid (wr.ownsRow w.heap.size 3 1 v10 k ((lfTo n s l k).map (Value.int .i64))) ∧ Hid (Own.Apart v9 v10) ∧ Hid (Below w.heap.size w wr)) (fun _ _ _ v12 _ => l.length - (intOf v12).toNat)
          case atStart => exact ⟨0, N, by omega, rfl, rfl, by show N = _; rw [← hN.out]; simp [sN], World.ownsRow_nil _ _ _ _, World.ownsRow_nil _ _ _ _, Or.inl rfl, Below.refl _ _⟩
          case round =>
            obtain ⟨k, T, hk, rfl, rfl, HT, HO8, HO9, HAp, HB⟩ := hrel
            by_cases hlt : k < l.length
            · have hx := In.Ints.below HA.out HB.out
              obtain ⟨b, off, ea, hb, hc⟩ := hx k hlt
              rw [ea]
              replace ea := Lib.hid ea
              clear hx
              have hlt1 : (k : Int) < (l.length : Int) := by omega
              have CM2 := Lib.hid (CM.out k hlt)
              have CD2 := Lib.hid (CD.out k hlt)
              have hsh := HG.out.sh_le hlt
              have hmm := HG.out.more.1
              have hmo := sN_mono (shI n s l) (show k + 1 ≤ l.length by omega)
              have hn2 := HG.out.n2
              have HS1 : Hid (sN (shI n s l) (k + 1) = sN (shI n s l) k + shI n s l k) := rfl
              have HS2 : Hid (shTo n s l (k + 1) = shTo n s l k ++ [(shI n s l k : Int)]) := shTo_succ n s l k
              have HS3 : Hid (lfTo n s l (k + 1) = lfTo n s l k ++ [(lfI n s l k : Int)]) := lfTo_succ n s l k
              have hm0 := HT.out
              rw [HS1.out] at hmo
              obtain ⟨Q, hQ⟩ : ∃ A : Int, Hid ((shI n s l k : Int) = A) := ⟨_, rfl⟩
              obtain ⟨M2, wM, hM2⟩ : ∃ A : Int, wrap64 (T - Q) = A ∧ Hid (A = (n : Int) - (sN (shI n s l) (k + 1) : Int)) := ⟨T - Q, by rw [← hQ.out]; unfold wrap64; omega, by show _ = _; rw [HS1.out, ← hQ.out, hm0]; omega⟩
              rw [hQ.out] at CM2 HS2
              generalize (lfI n s l k : Int) = R at *
              obtain ⟨X, hX⟩ : ∃ A : Int, Hid (l.getD k 0 = A) := ⟨_, rfl⟩
              rw [hX.out] at hc CM2 CD2
              clear hsh hmm hmo hm0 hn2
              go_wp2_with (first
                | (go_at_call 10; ((with_reducible refine (CM2.out _).mono ?_); rintro e w1 ⟨rfl, rfl⟩))
                | (go_at_call 26; ((with_reducible refine (CD2.out _).mono ?_); rintro e w1 ⟨rfl, rfl⟩))
                | (at_builtin; refine Own.lies_one rfl (.tmp 89) (.tmp 91) 22 rfl w.heap.size 3 i0 _ 8 Try.underlying22 hi hz0 hz1 hz2 rfl _ k _ rfl _ _ _ rfl (HO8.out.alloc _) (Own.cell_new _ _ _) rfl ?h1 ?h2 ?h3 (wr.heap.size + 1) (by simp) ?_; (case h1 => have := HL.out; unfold maxLen; omega); (case h2 => have := HL.out; omega); (case h3 => have := HB.out.size; simp; omega); intro g8 cap8 w2 hown8 hgrow8 hat8 hlt8; have HB2 := Lib.hid ((below_al HB.out _).grown hgrow8 (below_al HB.out _).size (Own.own_block HO8.out (Nat.le_refl _))); have HO92 := Lib.hid (Own.Apart.kept HAp.out.symm (HO9.out.alloc _) hgrow8); have HAp2 := Lib.hid (HAp.out.left (n := k + 1) (cap := cap8) hat8 (fun j hj => Nat.lt_succ_of_lt (HO9.out.lt j hj).2)); have HO82 := Lib.hid hown8; clear hown8; have hc2 : w2.cell? ⟨b, off + k, none⟩ = some (.int .i64 X) := by { obtain ⟨b', off', ea', _, hc'⟩ := (In.Ints.below HA.out HB2.out) k hlt; rw [hX.out] at hc'; rw [ea.out] at ea'; cases ea'; exact hc' })
                | (at_builtin; refine Own.lies_one rfl (.tmp 93) (.tmp 101) 22 rfl w.heap.size 3 i0 _ 8 Try.underlying22 hi hz0 hz1 hz2 rfl _ k _ rfl _ _ _ rfl (HO92.out.alloc _) (Own.cell_new _ _ _) rfl ?j1 ?j2 ?j3 (w2.heap.size + 1) (by simp) ?_; (case j1 => have := HL.out; unfold maxLen; omega); (case j2 => have := HL.out; omega); (case j3 => have := HB2.out.size; simp; omega); intro g9 cap9 w3 hown9 hgrow9 hat9 hlt9; have HB3 := Lib.hid ((below_al HB2.out _).grown hgrow9 (below_al HB2.out _).size (Own.own_block HO92.out (Nat.le_refl _))); have HO83 := Lib.hid (Own.Apart.kept HAp2.out (HO82.out.alloc _) hgrow9); have HAp3 := Lib.hid (HAp2.out.right (n := k + 1) (cap := cap9) hat9 (fun j hj => Nat.lt_succ_of_lt (HO82.out.lt j hj).2)); have HO93 := Lib.hid hown9; clear hown9))
              go_roundw
              case rel => exact ⟨k + 1, M2, by omega, by go_num, by rw [wM], hM2, by rw [HS2.out, List.map_append]; exact HO83, by rw [HS3.out, List.map_append]; exact HO93, HAp3, HB3⟩
              case measure => simp [intOf]; omega
            · have hke : k = l.length := by omega
              subst hke
              have hmo := HG.out.more
              have h1 := HG.out.len1
              have hn2 := HG.out.n2
              obtain ⟨mo, hmo2⟩ : ∃ mo, Hid (moN n s l = mo) := ⟨_, rfl⟩
              rw [hmo2.out] at hmo
              have e0 : T = (mo : Int) := by have := HT.out; have h2 : n - sN (shI n s l) l.length = mo := hmo2.out; omega
              subst e0
              have HMO : Hid (mo < l.length ∧ mo ≤ n) := ⟨hmo.2, by have h2 : n - sN (shI n s l) l.length = mo := hmo2.out; omega⟩
              obtain ⟨g8, cap8, rfl, hg8, hl8⟩ := HO8.out.form (by omega)
              obtain ⟨g9, cap9, rfl, hg9, hl9⟩ := HO9.out.form (by omega)
              have hne : g8 ≠ g9 := by
                have h := HAp.out
                rcases h with h | h
                · cases h
                · intro e; exact h (by rw [e]; rfl)
              have R8 : Hid (RowAt wr g8 ((shTo n s l l.length).map (Value.int .i64))) := RowAt.of_own HO8.out
              have R9 : Hid (RowAt wr g9 ((lfTo n s l l.length).map (Value.int .i64))) := RowAt.of_own HO9.out
              have HR := Lib.hid (ordL_ranked n s l)
              have HC : Hid (g8 ≠ g9 ∧ w.heap.size ≤ g8 ∧ w.heap.size ≤ g9 ∧ n ≤ 1152921504606846976) := ⟨hne, hg8, hg9, hn2⟩
              have b3 : mo ≤ 16 := by omega
              clear hmo h1 hn2 hg8 hg9 hl8 hl9 hne HO8 HO9 HAp HT HA CM CD hlt hk
              go_wp2
              go_loopw [11] (fun v11 wr2 => ∃ p : Nat, p ≤ mo ∧ v11 = .int .i64 ((mo : Int) - (p : Int)) ∧ Hid (RowAt wr2 g8 ((incs (shTo n s l l.length) (ordL n s l) p).map (Value.int .i64))) ∧ Hid (RowAt wr2 g9 ((rests (lfTo n s l l.length) (ordL n s l) p).map (Value.int .i64))) ∧ Hid (Below w.heap.size w wr2)) (fun v11 _ => (intOf v11).toNat)
              case atStart => exact ⟨0, by omega, by simp, R8, R9, HB⟩
              case round =>
                obtain ⟨p, hp, rfl, R8', R9', HB'⟩ := hrel
                by_cases hlt : p < mo
                · have hll : p < (lfTo n s l l.length).length := by rw [lfTo_len]; have := HMO.out.1; omega
                  have hd1 : decide (p < mo) = true := decide_eq_true hlt
                  have hpos : (0 : Int) < (mo : Int) - (p : Int) := by omega
                  have h0 : ∀ i, i < (lfTo n s l l.length).length → 0 ≤ (lfTo n s l l.length).getD i 0 := fun i hi => by rw [lfTo_len] at hi; rw [lfTo_get n s l _ _ hi]; omega
                  have HF : Hid (fm (rests (lfTo n s l l.length) (ordL n s l) p) l.length = pl (ordL n s l) p) := by have := rests_first HR.out h0 p hll; rwa [lfTo_len] at this
                  obtain ⟨hpl, hpg⟩ := HR.out.pl_lt hll
                  have hV := (incs_get HR.out (shTo n s l l.length) (by rw [shTo_len, lfTo_len]) (pl (ordL n s l) p) p (by omega)).2 (fun q hq => HR.out.pl_inj (by omega) hll (by omega))
                  have HI : Hid (incs (shTo n s l l.length) (ordL n s l) (p + 1) = (incs (shTo n s l l.length) (ordL n s l) p).set (pl (ordL n s l) p) ((incs (shTo n s l l.length) (ordL n s l) p).getD (pl (ordL n s l) p) 0 + 1)) := rfl
                  have HJ : Hid (rests (lfTo n s l l.length) (ordL n s l) (p + 1) = (rests (lfTo n s l l.length) (ordL n s l) p).set (pl (ordL n s l) p) (-1)) := rfl
                  have hil : (incs (shTo n s l l.length) (ordL n s l) p).length = l.length := by rw [incs_len, shTo_len]
                  have hrl : (rests (lfTo n s l l.length) (ordL n s l) p).length = l.length := by rw [rests_len, lfTo_len]
                  rw [lfTo_len] at hpl
                  have hVs : (incs (shTo n s l l.length) (ordL n s l) p).getD (pl (ordL n s l) p) 0 ≤ 1152921504606846976 ∧ 0 ≤ (incs (shTo n s l l.length) (ordL n s l) p).getD (pl (ordL n s l) p) 0 := by
                    rw [hV, shTo_get n s l _ _ hpl]
                    have := HG.out.sh_le hpl
                    have := HC.out.2.2.2
                    omega
                  clear hV hpg h0 hlt
                  generalize incs (shTo n s l l.length) (ordL n s l) p = IC at *
                  generalize rests (lfTo n s l l.length) (ordL n s l) p = RC at *
                  generalize pl (ordL n s l) p = PL at *
                  have HPL : Hid (PL < l.length ∧ IC.length = l.length ∧ RC.length = l.length ∧ p < mo) := ⟨hpl, hil, hrl, by omega⟩
                  have HVS := Lib.hid hVs
                  have HPP : Hid (p < mo ∧ mo ≤ 16) := ⟨by omega, b3⟩
                  clear hil hrl hVs hpl hll
                  obtain ⟨wo, rfl⟩ : ∃ wo : World, wo = wr := ⟨_, rfl⟩
                  go_wp2
                  go_loopw [15, 16] (fun v15 v16 wr3 => ∃ i : Nat, i ≤ l.length ∧ v16 = .int .i64 i ∧ v15 = .int .i64 (fm RC i : Int) ∧ Hid (RowAt wr3 g8 (IC.map (Value.int .i64))) ∧ Hid (RowAt wr3 g9 (RC.map (Value.int .i64))) ∧ Hid (Below w.heap.size w wr3)) (fun _ v16 _ => l.length - (intOf v16).toNat)
                  case atStart => exact ⟨0, by omega, rfl, rfl, R8', R9', HB'⟩
                  case round =>
                    obtain ⟨i, hii, rfl, rfl, Q8, Q9, QB⟩ := hrel
                    by_cases hlt : i < l.length
                    · have c1 := row_get Q9.out (i := i) (by rw [HPL.out.2.2.1]; exact hlt)
                      have hK : fm RC i < l.length := by
                        by_cases e : i = 0
                        · subst e; exact hlt
                        · have := fm_lt RC i (by omega); omega
                      have c2 := row_get Q9.out (i := fm RC i) (by rw [HPL.out.2.2.1]; exact hK)
                      have hlt1 : (i : Int) < (l.length : Int) := by omega
                      have hlt0 : (0 : Int) ≤ (i : Int) := by omega
                      have hK1 : (fm RC i : Int) < (l.length : Int) := by omega
                      have hK0 : (0 : Int) ≤ (fm RC i : Int) := by omega
                      have HFM : Hid (fm RC (i + 1) = if RC.getD (fm RC i) 0 < RC.getD i 0 then i else fm RC i) := rfl
                      generalize RC.getD (fm RC i) 0 = X2 at *
                      generalize RC.getD i 0 = X1 at *
                      generalize fm RC i = K at *
                      by_cases g : X2 < X1
                      · have d1 : decide (X2 < X1) = true := decide_eq_true g
                        have HF2 : Hid (fm RC (i + 1) = i) := by show _ = _; rw [HFM.out, if_pos g]
                        clear hK
                        go_wp2
                        go_quiet (fail)
                        go_wp2
                        go_roundw
                        case rel => exact ⟨i + 1, by omega, by go_num, by rw [HF2.out], Q8, Q9, below_dN QB.out _⟩
                        case measure => simp [intOf]; omega
                      · have d1 : decide (X2 < X1) = false := decide_eq_false g
                        have HF2 : Hid (fm RC (i + 1) = K) := by show _ = _; rw [HFM.out, if_neg g]
                        clear hK
                        go_wp2
                        go_quiet (fail)
                        go_wp2
                        go_roundw
                        case rel => exact ⟨i + 1, by omega, by go_num, by rw [HF2.out], Q8, Q9, below_dN QB.out _⟩
                        case measure => simp [intOf]; omega
                    · have hge : ¬ (i : Int) < (l.length : Int) := by omega
                      have hie : i = l.length := by omega
                      have e2 : fm RC i = PL := by rw [hie]; exact HF.out
                      rw [e2]
                      have c8 := row_get Q8.out (i := PL) (by rw [HPL.out.2.1]; exact HPL.out.1)
                      have f8 := Q8.out.frozen PL
                      have c9 := row_get Q9.out (i := PL) (by rw [HPL.out.2.2.1]; exact HPL.out.1)
                      have f9 := Q9.out.frozen PL
                      have hVs := HVS.out
                      generalize IC.getD PL 0 = V at *
                      generalize RC.getD PL 0 = V9 at *
                      obtain ⟨V2, wV, hV2⟩ : ∃ A : Int, wrap64 (V + 1) = A ∧ Hid (V + 1 = A) := ⟨V + 1, by unfold wrap64; omega, rfl⟩
                      rw [hV2.out] at HI
                      have n0 : (0 : Int) ≤ (PL : Int) := by omega
                      have n1 : (PL : Int) < (l.length : Int) := by have := HPL.out.1; omega
                      have hne := HC.out.1
                      have g8l := Q8.out.lt
                      have g9l := Q9.out.lt
                      clear hVs hlt hie e2
                      go_wp2
                      go_roundw
                      case rel => exact ⟨p + 1, HPP.out.1, by rw [show (mo : Int) - (p : Int) - 1 = (mo : Int) - ((p + 1 : Nat) : Int) by omega], by rw [HI.out, List.map_set]; exact (Q8.out.set _ _).setOther HC.out.1 _, by rw [HJ.out, List.map_set]; exact (Q9.out.setOther (fun e => HC.out.1 e.symm) _).set _ _, (QB.out.setCell HC.out.2.1 _).setCell HC.out.2.2.1 _⟩
                      case measure =>
                        have := HPP.out
                        simp only [intOf]
                        omega
                · have hke : p = mo := by omega
                  have HO : Hid (outV n s l = incs (shTo n s l l.length) (ordL n s l) p) := by show outV n s l = _; rw [hke, ← hmo2.out]; rfl
                  have hd1 : decide (p < mo) = false := decide_eq_false hlt
                  have hpos : ¬ (0 : Int) < (mo : Int) - (p : Int) := by omega
                  clear hke hlt
                  go_wp2
                  go_ret2
                  exact ⟨some ⟨g8, 0, none⟩, cap8, by rw [outV_len]; rfl, by rw [HO.out]; exact R8'.out.ints .i64 _ rfl, HB'.out⟩
end Fee
end Go.Proofs.Ytbfcgaijplhcoaa
