/- Split: the walk, where the weights may be. -/
import Derived.Test.YtbfcgaijplhcoaaFeeQ
import Derived.Test.YtbfcgaijplhcoaaFeeZ
namespace Go.Proofs.Ytbfcgaijplhcoaa
open Go.Sort Go.RowKit
namespace Fee
open In (Ints IsInts)
theorem info_parts {P : Program} {e : TypeId} {z : Value} {n b : Nat} (h : (P.info? e).map (fun i => (i.zero, i.size, i.bytes)) = some (some z, n, b)) : ∃ i, P.info? e = some i ∧ i.zero = some z ∧ i.size = n ∧ i.bytes = b := by
  cases hi : P.info? e with
  | none => rw [hi] at h; cases h
  | some i => rw [hi] at h; simp at h; exact ⟨i, rfl, h.1, h.2.1, h.2.2⟩
theorem pair_new (w : World) (u0 u1 : Value) (t : TypeId) : (w.alloc (.cells #[u0, u1] t)).cell? ((⟨w.heap.size, 0, none⟩ : Addr).add 0) = some u0 ∧ (w.alloc (.cells #[u0, u1] t)).cell? ((⟨w.heap.size, 0, none⟩ : Addr).add 1) = some u1 := by
  constructor <;> simp [Addr.add, go_sem]
theorem sorted_row {w : World} {g : Nat} {l : List (Int × Int)} {d : Array (Int × Int)} {n : Nat} {os : Array Obj} (h : RowAt w g (partVals l)) (hd : d.size = l.length) :
    RowAt (sortWorldK encP 2 w g 0 n d os) g (partVals d.toList) := by
  have hcell := fun p hp => sorted_cells (d := d) (n := n) (os := os) h hd p hp
  obtain ⟨cur, T, hg, _⟩ := h
  have hgs : g < w.heap.size := (Array.getElem?_eq_some_iff.1 hg).1
  have hb : (sortWorldK encP 2 w g 0 n d os).heap[g]? = some (.cells (putCells id 0 (flatK encP 2 d) cur) T (0, 0)) := by
    unfold sortWorldK putRowK
    rw [heap_grow_old _ _ (by simpa using hgs)]
    simp [putRow, mapBlock, Sort.ahead, Array.getElem?_modify, hg, onCells]
  refine ⟨_, T, hb, fun i u hu => ?_⟩
  have hlen : i < d.size * 2 := by
    have := (List.getElem?_eq_some_iff.1 hu).1
    rw [partVals_length] at this
    simpa using this
  have key : (sortWorldK encP 2 w g 0 n d os).cell? ⟨g, i, none⟩ = some u := by
    have hg2 := partVals_get d.toList (i / 2) (by simp; omega)
    have hc := hcell (i / 2) (by omega)
    rcases Nat.mod_two_eq_zero_or_one i with e | e
    · have e2 : i / 2 * 2 = i := by omega
      rw [e2] at hg2 hc
      rw [hc.1, ← hg2.1, hu]
    · have e2 : i / 2 * 2 + 1 = i := by omega
      rw [e2] at hg2 hc
      rw [hc.2, ← hg2.2, hu]
  simpa [World.cell?, hb] using key
/-- A list of numbers and an error's number are handed back; nothing that was there has changed. -/
def SplitOut (V : List Int) (E : Int) (w : World) (e : Ending) (w' : World) : Prop := ∃ a c, e = .returned (.tuple #[.slice a V.length c, .int .i64 E]) ∧ Ints .i64 w' a V ∧ Below w.heap.size w w'
/-- What a round of the shares computes. -/
theorem share_mul (n s : Nat) (l : List Int) (hg : Good n s l) (k : Nat) (hk : k < l.length) (w : World) :
    Calls Try.prog 21 #[.int .u64 (n : Int), .int .u64 (l.getD k 0)] w fun e w' => e = .returned (.tuple #[.int .u64 ((n * wN l k / 18446744073709551616 : Nat) : Int), .int .u64 ((n * wN l k % 18446744073709551616 : Nat) : Int)]) ∧ w = w' := by
  have h1 := hg.at hk
  have h2 := hg.n2
  rw [← h1.1]
  exact (Try.bits_Mul64 n (wN l k) (by omega) (by omega) w).mono fun e w' ⟨h1, h2⟩ => ⟨h1, h2.symm⟩
theorem share_div (n s : Nat) (l : List Int) (hg : Good n s l) (k : Nat) (hk : k < l.length) (w : World) :
    Calls Try.prog 22 #[.int .u64 ((n * wN l k / 18446744073709551616 : Nat) : Int), .int .u64 ((n * wN l k % 18446744073709551616 : Nat) : Int), .int .u64 (s : Int)] w fun e w' => e = .returned (.tuple #[.int .u64 (shI n s l k : Int), .int .u64 (lfI n s l k : Int)]) ∧ Below w.heap.size w w' := by
  have h1 := hg.w_le hk
  have h2 := hg.n2
  have h3 := hg.s1
  have h4 := hg.s2
  have hm : n * wN l k ≤ 1152921504606846976 * s := Nat.mul_le_mul h2 h1
  have e2 : n * wN l k / 18446744073709551616 * 18446744073709551616 + n * wN l k % 18446744073709551616 = n * wN l k := by omega
  have := Div.div_any (n * wN l k / 18446744073709551616) (n * wN l k % 18446744073709551616) s (by omega) (by omega) (by omega) w
  rw [e2] at this
  exact this
theorem Good.sh_le {n s : Nat} {l : List Int} (hg : Good n s l) {k : Nat} (hk : k < l.length) : shI n s l k ≤ n := by
  unfold shI
  have h1 := hg.w_le hk
  have h3 := hg.s1
  have := Nat.mul_le_mul_left n h1
  exact Nat.div_le_of_le_mul (by rw [Nat.mul_comm s n]; exact this)
set_option maxRecDepth 100000 in
set_option maxHeartbeats 8000000 in
theorem split_core (n s : Nat) (l : List Int) (a : Option Addr) (cap : Nat) (hg : Good n s l) (w : World) (ha : Ints .i64 w a l)
    (CM1 : ∀ W, Calls Try.prog 19 #[.int .i64 (n : Int)] W fun e w' => e = .returned (.bool true) ∧ W = w')
    (CT : Calls Try.prog 20 #[.slice a l.length cap] w fun e w' => e = .returned (.tuple #[.int .i64 (s : Int), .int .i64 0]) ∧ w = w') :
    Calls Try.prog 7 #[.int .i64 (n : Int), .slice a l.length cap] w (SplitOut (outV n s l) 0 w) := by
  replace CM1 := Lib.hid CM1
  replace CT := Lib.hid CT
  have HA := Lib.hid ha
  have HG := Lib.hid hg
  have CM : Hid (∀ k, k < l.length → ∀ W, _) := fun k hk W => share_mul n s l hg k hk W
  have CD : Hid (∀ k, k < l.length → ∀ W, _) := fun k hk W => share_div n s l hg k hk W
  obtain ⟨i0, hi, hz0, hz1, hz2⟩ := info_parts info3
  obtain ⟨i1, hj, hy0, hy1, hy2⟩ := info_parts info45
  have hn2 := hg.n2
  have hs2 := hg.s2
  have hl16 := hg.len2
  have HL : Hid (l.length ≤ 16) := hl16
  obtain ⟨N, hN⟩ : ∃ A : Int, Hid ((n : Int) = A) := ⟨_, rfl⟩
  obtain ⟨S, hS⟩ : ∃ A : Int, Hid ((s : Int) = A) := ⟨_, rfl⟩
  have kwN : IntKind.u64.wrap N = N := by rw [← hN.out, Div.w64]; omega
  have kwS : IntKind.u64.wrap S = S := by rw [← hS.out, Div.w64]; omega
  rw [hN.out] at CM1 CM ⊢
  rw [hS.out] at CT CD
  clear hg ha hn2 hs2
  go_enter Try.func7, Try.ntmps7
  go_wp2_with (first
    | (go_at_call 19; ((with_reducible refine (CM1.out _).mono ?_); rintro e w1 ⟨rfl, rfl⟩))
    | (go_at_call 20; ((with_reducible refine CT.out.mono ?_); rintro e w1 ⟨rfl, rfl⟩)))
  go_loopw [8, 9, 10, 33] (fun v8 v9 v10 v33 wr => ∃ (k : Nat) (M : Int), k ≤ l.length ∧ v33 = .int .i64 k ∧ v10 = .int .i64 M ∧ Hid (M = (n : Int) - (sN (shI n s l) k : Int)) ∧ Hid (wr.ownsRow w.heap.size 3 1 v8 k ((shTo n s l k).map (Value.int .i64))) ∧ Hid (wr.ownsRow w.heap.size 45 2 v9 k (partVals (ptTo n s l k))) ∧ Hid (Own.Apart v8 v9) ∧ Hid (Below w.heap.size w wr)) (fun _ _ _ v33 _ => l.length - (intOf v33).toNat)
  case atStart => exact ⟨0, N, by omega, rfl, rfl, by show N = _; rw [← hN.out]; simp [sN], World.ownsRow_nil _ _ _ _, World.ownsRow_nil _ _ _ _, Or.inl rfl, Below.refl _ _⟩
  case round =>
    obtain ⟨k, M, hk, rfl, rfl, HM, HO8, HO9, HAp, HB⟩ := hrel
    by_cases hlt : k < l.length
    · have hx := In.Ints.below HA.out HB.out
      obtain ⟨b, off, ea, hb, hc⟩ := hx k hlt
      rw [ea]
      clear hx
      have hlt1 : (k : Int) < (l.length : Int) := by omega
      have CM2 := Lib.hid (CM.out k hlt)
      have CD2 := Lib.hid (CD.out k hlt)
      have hat := HG.out.at hlt
      have hX : IntKind.u64.wrap (l.getD k 0) = l.getD k 0 := by rw [← hat.1, Div.w64]; omega
      have hsh := HG.out.sh_le hlt
      have hmm := HG.out.more.1
      have hmo := sN_mono (shI n s l) (show k + 1 ≤ l.length by omega)
      have hn2 := HG.out.n2
      have HS1 : Hid (sN (shI n s l) (k + 1) = sN (shI n s l) k + shI n s l k) := rfl
      have HS2 : Hid (shTo n s l (k + 1) = shTo n s l k ++ [(shI n s l k : Int)]) := shTo_succ n s l k
      have HS3 : Hid (ptTo n s l (k + 1) = ptTo n s l k ++ [((k : Int), (lfI n s l k : Int))]) := ptTo_succ n s l k
      have hm0 := HM.out
      rw [HS1.out] at hmo
      obtain ⟨Q, hQ⟩ : ∃ A : Int, Hid ((shI n s l k : Int) = A) := ⟨_, rfl⟩
      have wQ : wrap64 Q = Q := by rw [← hQ.out]; unfold wrap64; omega
      obtain ⟨M2, wM, hM2⟩ : ∃ A : Int, wrap64 (M - Q) = A ∧ Hid (A = (n : Int) - (sN (shI n s l) (k + 1) : Int)) := ⟨M - Q, by rw [← hQ.out]; unfold wrap64; omega, by show _ = _; rw [HS1.out, ← hQ.out, hm0]; omega⟩
      rw [hQ.out] at CD2 HS2
      generalize ((n * wN l k / 18446744073709551616 : Nat) : Int) = HI at *
      generalize ((n * wN l k % 18446744073709551616 : Nat) : Int) = LO at *
      generalize (lfI n s l k : Int) = R at *
      generalize l.getD k 0 = X at *
      clear hat hsh hmm hmo hm0 hn2
      go_wp2_with (first
        | (go_at_call 21; ((with_reducible refine (CM2.out _).mono ?_); rintro e w1 ⟨rfl, rfl⟩))
        | (go_at_call 22; ((with_reducible refine (CD2.out _).mono ?_); rintro e w1 ⟨rfl, hb1⟩; have HB1 := Lib.hid (below2 HB.out hb1); have HO81 := Lib.hid (Own.own_below HO8.out hb1); have HO91 := Lib.hid (Own.own_below HO9.out hb1)))
        | (at_builtin; refine Own.lies_one rfl (.tmp 54) (.tmp 57) 22 rfl w.heap.size 3 i0 _ 8 Try.underlying22 hi hz0 hz1 hz2 rfl _ k _ rfl _ _ _ rfl (HO81.out.alloc _) (Own.cell_new _ _ _) rfl ?h1 ?h2 ?h3 (w1.heap.size + 1) (by simp) ?_; (case h1 => have := HL.out; unfold maxLen; omega); (case h2 => have := HL.out; omega); (case h3 => have := HB1.out.size; simp; omega); intro g8 cap8 w2 hown8 hgrow8 hat8 hlt8; have HB2 := Lib.hid ((below_al HB1.out _).grown hgrow8 (below_al HB1.out _).size (Own.own_block HO81.out (Nat.le_refl _))); have HO92 := Lib.hid (Own.Apart.kept HAp.out.symm (HO91.out.alloc _) hgrow8); have HAp2 := Lib.hid (HAp.out.left (n := k + 1) (cap := cap8) hat8 (fun j hj => Nat.lt_succ_of_lt (HO91.out.lt j hj).2)); have HO82 := Lib.hid hown8; clear hown8)
        | (at_builtin; refine Own.lies_pair rfl (.tmp 59) (.tmp 63) 39 rfl w.heap.size 45 i1 _ 16 Try.underlying39 hj hy0 hy1 hy2 rfl _ k _ rfl _ _ _ _ rfl (HO92.out.alloc _) (pair_new _ _ _ _).1 (pair_new _ _ _ _).2 rfl rfl ?j1 ?j2 ?j3 (w2.heap.size + 1) (by simp) ?_; (case j1 => have := HL.out; unfold maxLen; omega); (case j2 => have := HL.out; omega); (case j3 => have := HB2.out.size; simp; omega); intro g9 cap9 w3 hown9 hgrow9 hat9 hlt9; have HB3 := Lib.hid ((below_al HB2.out _).grown hgrow9 (below_al HB2.out _).size (Own.own_block HO92.out (Nat.le_refl _))); have HO83 := Lib.hid (Own.Apart.kept HAp2.out (HO82.out.alloc _) hgrow9); have HAp3 := Lib.hid (HAp2.out.right (n := k + 1) (cap := cap9) hat9 (fun j hj => Nat.lt_succ_of_lt (HO82.out.lt j hj).2)); have HO93 := Lib.hid hown9; clear hown9))
      go_roundw
      case rel => exact ⟨k + 1, M2, by omega, by go_num, by rw [wM], hM2, by rw [HS2.out, List.map_append]; exact HO83, by rw [HS3.out, partVals_append]; exact HO93, HAp3, HB3⟩
      case measure => simp [intOf]; omega
    · have hke : k = l.length := by omega
      subst hke
      have hmo := HG.out.more
      have h1 := HG.out.len1
      have hn2 := HG.out.n2
      obtain ⟨mo, hmo2⟩ : ∃ mo, Hid (moN n s l = mo) := ⟨_, rfl⟩
      rw [hmo2.out] at hmo
      have e0 : M = (mo : Int) := by have := HM.out; have h2 : n - sN (shI n s l) l.length = mo := hmo2.out; omega
      subst e0
      have HMO : Hid (mo < l.length ∧ mo ≤ n) := ⟨hmo.2, by have h2 : n - sN (shI n s l) l.length = mo := hmo2.out; omega⟩
      obtain ⟨g8, cap8, rfl, hg8, hl8⟩ := HO8.out.form (by omega)
      obtain ⟨g9, cap9, rfl, hg9, hl9⟩ := HO9.out.form (by omega)
      have hcap : l.length ≤ cap9 := by
        rcases HO9.out.2 with ⟨h0, _⟩ | ⟨g', cap', cur, hv, _, _, hc, _⟩
        · cases h0
        · cases hv; exact hc
      have hne : g8 ≠ g9 := by
        have h := HAp.out
        rcases h with h | h
        · cases h
        · intro e; exact h (by rw [e]; rfl)
      have R8 : Hid (RowAt wr g8 ((shTo n s l l.length).map (Value.int .i64))) := RowAt.of_own HO8.out
      have R9 : Hid (RowAt wr g9 (partVals (ptTo n s l l.length))) := RowAt.of_own HO9.out
      have hrk := ordL_ranked n s l
      have SC : Hid (Calls Try.prog 23 #[.slice (some ⟨g9, 0, none⟩) l.length cap9, .func (.func 24) #[] #[]] wr fun e w' => e = .returned (.tuple #[]) ∧ Hid (RowAt w' g9 (partVals (ordL n s l)) ∧ wr.grownBy w' (some g9))) := by
        have hz : (ptTo n s l l.length).toArray.size = l.length := by simp [ptTo_len]
        have := sort_any g9 0 cap9 (ptTo n s l l.length).toArray wr (holds_of_row R9.out) hl9 (by omega)
        rw [hz] at this
        refine this.mono ?_
        rintro e w' ⟨rfl, q, os, rfl⟩
        have hd : (Sort.insertionSort (ltOf cfP) (ptTo n s l l.length).toArray 0 l.length).toList = ordL n s l := by
          unfold ordL order
          rw [← ptTo_eq]
          simp [ptTo_len]
        have hds : (Sort.insertionSort (ltOf cfP) (ptTo n s l l.length).toArray 0 l.length).size = l.length := by
          rw [← Array.length_toList, hd, hrk.len, lfTo_len]
        refine ⟨rfl, ?_, grown_sorted _⟩
        rw [← hd]
        exact sorted_row R9.out (by rw [hds, ptTo_len])
      have HR := Lib.hid hrk
      have HC : Hid (l.length ≤ cap9 ∧ g8 ≠ g9 ∧ w.heap.size ≤ g8 ∧ w.heap.size ≤ g9 ∧ n ≤ 1152921504606846976) := ⟨hcap, hne, hg8, hg9, hn2⟩
      have b1 : (0 : Int) ≤ (mo : Int) := by omega
      have b3 : mo ≤ 16 := by omega
      have b2 : (mo : Int) ≤ (cap9 : Int) := by omega
      clear hmo h1 hn2 hg8 hg9 hl8 hl9 hcap hne hrk HO8 HO9 HAp HM HA R9 CM CD hlt hk hl16
      go_wp2_with (go_at_call 23; ((with_reducible refine SC.out.mono ?_); rintro e w1 ⟨rfl, HSo⟩))
      have G8 : Hid (RowAt w1 g8 ((shTo n s l l.length).map (Value.int .i64))) := R8.out.grown HSo.out.2 (by simpa using HC.out.2.1)
      have G9 : Hid (RowAt w1 g9 (partVals (ordL n s l))) := HSo.out.1
      have GB : Hid (Below w.heap.size w w1) := HB.out.grown HSo.out.2 HB.out.size (fun k hk => by cases hk; exact HC.out.2.2.2.1)
      go_loopw [76] (fun v76 wr2 => ∃ p : Nat, p ≤ mo ∧ v76 = .int .i64 p ∧ Hid (RowAt wr2 g8 ((incs (shTo n s l l.length) (ordL n s l) p).map (Value.int .i64))) ∧ Hid (RowAt wr2 g9 (partVals (ordL n s l))) ∧ Hid (Below w.heap.size w wr2)) (fun v76 _ => mo - (intOf v76).toNat)
      case atStart => exact ⟨0, by omega, rfl, G8, G9, GB⟩
      case round =>
        obtain ⟨p, hp, rfl, R8', R9', HB'⟩ := hrel
        by_cases hlt : p < mo
        · have hlt1 : (p : Int) < (mo : Int) := by omega
          have hll : p < (lfTo n s l l.length).length := by rw [lfTo_len]; have := HMO.out.1; omega
          obtain ⟨hpl, hpg⟩ := HR.out.pl_lt hll
          have hgt := partVals_get (ordL n s l) p (by rw [HR.out.len]; exact hll)
          rw [hpg] at hgt
          have c0 := R9'.out.cell hgt.1
          have c1 := R9'.out.cell hgt.2
          have hV := (incs_get HR.out (shTo n s l l.length) (by rw [shTo_len, lfTo_len]) (pl (ordL n s l) p) p (by omega)).2 (fun q hq => HR.out.pl_inj (by omega) hll (by omega))
          have HI : Hid (incs (shTo n s l l.length) (ordL n s l) (p + 1) = (incs (shTo n s l l.length) (ordL n s l) p).set (pl (ordL n s l) p) ((incs (shTo n s l l.length) (ordL n s l) p).getD (pl (ordL n s l) p) 0 + 1)) := rfl
          have hil : (incs (shTo n s l l.length) (ordL n s l) p).length = l.length := by rw [incs_len, shTo_len]
          rw [lfTo_len] at hpl
          have c8 := R8'.out.cell (i := pl (ordL n s l) p) (u := .int .i64 ((incs (shTo n s l l.length) (ordL n s l) p).getD (pl (ordL n s l) p) 0)) (by rw [List.getElem?_map, List.getElem?_eq_getElem (by omega), List.getD_eq_getElem?_getD, List.getElem?_eq_getElem (by omega)]; rfl)
          have f8 := R8'.out.frozen (pl (ordL n s l) p)
          have hVs : (incs (shTo n s l l.length) (ordL n s l) p).getD (pl (ordL n s l) p) 0 ≤ 1152921504606846976 ∧ 0 ≤ (incs (shTo n s l l.length) (ordL n s l) p).getD (pl (ordL n s l) p) 0 := by
            rw [hV, shTo_get n s l _ _ hpl]
            have := HG.out.sh_le hpl
            have := HC.out.2.2.2.2
            omega
          generalize (incs (shTo n s l l.length) (ordL n s l) p).getD (pl (ordL n s l) p) 0 = V at *
          obtain ⟨V2, wV, hV2⟩ : ∃ A : Int, wrap64 (V + 1) = A ∧ Hid (V + 1 = A) := ⟨V + 1, by unfold wrap64; omega, rfl⟩
          rw [hV2.out] at HI
          generalize ((lfTo n s l l.length).getD (pl (ordL n s l) p) 0) = LF at *
          have n1 : (0 : Int) ≤ (pl (ordL n s l) p : Int) := by omega
          have n2 : (pl (ordL n s l) p : Int) < (l.length : Int) := by omega
          generalize pl (ordL n s l) p = PL at *
          have g8l := R8'.out.lt
          have g9l := R9'.out.lt
          clear hgt hpg hV hVs hil hpl hll
          have HP : Hid (p < mo) := hlt
          go_wp2
          go_roundw
          case rel => exact ⟨p + 1, HP.out, by go_num, by rw [HI.out, List.map_set]; exact (R8'.out.set _ _).alloc _, (R9'.out.setOther (fun e => HC.out.2.1 e.symm) _).alloc _, below_al (HB'.out.setCell HC.out.2.2.1 _) _⟩
          case measure => have := HP.out; simp [intOf]; omega
        · have hke : p = mo := by omega
          have HO : Hid (outV n s l = incs (shTo n s l l.length) (ordL n s l) p) := by show outV n s l = _; rw [hke, ← hmo2.out]; rfl
          have hge : ¬ (p : Int) < (mo : Int) := by omega
          clear hke
          go_wp2
          go_ret2
          exact ⟨some ⟨g8, 0, none⟩, cap8, by rw [outV_len]; rfl, by rw [HO.out]; exact R8'.out.ints .i64 _ rfl, HB'.out⟩
end Fee
end Go.Proofs.Ytbfcgaijplhcoaa
