/- Of the shares: together they are what was shared; each is rounded down, or one more; of greater weights none is less. -/
import Derived.Test.YtbfcgaijplhcoaaFeeAw
namespace Go.Proofs.Ytbfcgaijplhcoaa
open Go.Sort Go.RowKit
namespace Fee
theorem Good.out_yes {n s : Nat} {l : List Int} (hg : Good n s l) {i : Nat} (hi : i < l.length) (h : ∃ q, q < moN n s l ∧ pl (ordL n s l) q = i) : (outV n s l).getD i 0 = (shI n s l i : Int) + 1 := by
  have hm := hg.more.2
  have := (incs_get (ordL_ranked n s l) (shTo n s l l.length) (by rw [shTo_len, lfTo_len]) i (moN n s l) (by rw [lfTo_len]; omega)).1 h
  rw [shTo_get n s l _ _ hi] at this
  exact this
theorem Good.out_no {n s : Nat} {l : List Int} (hg : Good n s l) {i : Nat} (hi : i < l.length) (h : ¬ ∃ q, q < moN n s l ∧ pl (ordL n s l) q = i) : (outV n s l).getD i 0 = (shI n s l i : Int) := by
  have hm := hg.more.2
  have := (incs_get (ordL_ranked n s l) (shTo n s l l.length) (by rw [shTo_len, lfTo_len]) i (moN n s l) (by rw [lfTo_len]; omega)).2 (fun q hq e => h ⟨q, hq, e⟩)
  rw [shTo_get n s l _ _ hi] at this
  exact this
theorem Good.out_near {n s : Nat} {l : List Int} (hg : Good n s l) {i : Nat} (hi : i < l.length) : (shI n s l i : Int) ≤ (outV n s l).getD i 0 ∧ (outV n s l).getD i 0 ≤ (shI n s l i : Int) + 1 := by
  by_cases h : ∃ q, q < moN n s l ∧ pl (ordL n s l) q = i
  · rw [hg.out_yes hi h]; omega
  · rw [hg.out_no hi h]; omega
theorem Good.out_mono {n s : Nat} {l : List Int} (hg : Good n s l) {i k : Nat} (hi : i < l.length) (hk : k < l.length) (h : l.getD i 0 < l.getD k 0) : (outV n s l).getD i 0 ≤ (outV n s l).getD k 0 := by
  have n1 := hg.out_near hi
  have n2 := hg.out_near hk
  have hw : wN l i < wN l k := by
    have a1 := (hg.at hi).1
    have a2 := (hg.at hk).1
    omega
  have hs := hg.s1
  have hle : shI n s l i ≤ shI n s l k := Nat.div_le_div_right (Nat.mul_le_mul_left n (by omega))
  by_cases hlt : shI n s l i < shI n s l k
  · omega
  have heq : shI n s l i = shI n s l k := by omega
  by_cases hp : ∃ q, q < moN n s l ∧ pl (ordL n s l) q = i
  · obtain ⟨q, hq, eq⟩ := hp
    have hm := hg.more.2
    have hr := ordL_ranked n s l
    obtain ⟨p, hpl, ep⟩ := hr.pl_sur (show k < (lfTo n s l l.length).length by rw [lfTo_len]; exact hk)
    have hn : 0 < n := by
      have : moN n s l ≤ n := Nat.sub_le _ _
      omega
    have hlf : lfI n s l i < lfI n s l k := by
      have d1 := Nat.div_add_mod (n * wN l i) s
      have d2 := Nat.div_add_mod (n * wN l k) s
      have e1 : n * wN l i / s = n * wN l k / s := heq
      rw [e1] at d1
      have hmul : n * wN l i < n * wN l k := Nat.mul_lt_mul_of_pos_left hw hn
      show n * wN l i % s < n * wN l k % s
      omega
    have hpq : p < moN n s l := by
      by_cases h1 : p ≤ q
      · omega
      · exfalso
        have := (hr.pl_ord (show q < p by omega) hpl).1
        rw [eq, ep, lfTo_get n s l _ _ hi, lfTo_get n s l _ _ hk] at this
        omega
    rw [hg.out_yes hk ⟨p, hpq, ep⟩, hg.out_yes hi ⟨q, hq, eq⟩, heq]
    exact Int.le_refl _
  · rw [hg.out_no hi hp]; omega
theorem smTo_sh (n s : Nat) (l : List Int) (m : Nat) (k : Nat) (hk : k ≤ m) : smTo (shTo n s l m) k = ((sN (shI n s l) k : Nat) : Int) := by
  induction k with
  | zero => rfl
  | succ k ih => rw [smTo, sN, ih (by omega), shTo_get n s l _ _ (by omega)]; omega
theorem Good.out_sum {n s : Nat} {l : List Int} (hg : Good n s l) : smTo (outV n s l) l.length = (n : Int) := by
  have hm := hg.more
  have := smTo_incs (ordL_ranked n s l) (shTo n s l l.length) (by rw [shTo_len, lfTo_len]) (moN n s l) (by rw [lfTo_len]; omega)
  rw [lfTo_len, smTo_sh n s l l.length l.length (Nat.le_refl _)] at this
  unfold outV
  rw [this]
  unfold moN
  omega
theorem i64_and40 (n : Int) : bits .and .i64 n 1099511627775 = n % 1099511627776 := by
  show IntKind.i64.wrap ((BitVec.ofInt 64 n &&& BitVec.ofInt 64 1099511627775).toNat : Int) = _
  rw [BitVec.toNat_and, show (BitVec.ofInt 64 1099511627775).toNat = 2 ^ 40 - 1 from rfl, Nat.and_two_pow_sub_one_eq_mod, BitVec.toNat_ofInt, IntKind.wrap_i64]
  have h : ((n % ((2 ^ 64 : Nat) : Int)).toNat : Int) = n % ((2 ^ 64 : Nat) : Int) := Int.toNat_of_nonneg (Int.emod_nonneg _ (by decide))
  have h2 : (((n % ((2 ^ 64 : Nat) : Int)).toNat % 2 ^ 40 : Nat) : Int) = n % 1099511627776 := by
    rw [Int.natCast_emod, h]
    omega
  rw [h2]
  omega
/-- The weights, made small. -/
def wk (x : Int) : Int := x % 1099511627776
def ws (l : List Int) : List Int := l.map wk
theorem ws_len (l : List Int) : (ws l).length = l.length := by simp [ws]
theorem wk_bd (x : Int) : 0 ≤ wk x ∧ wk x ≤ 1099511627775 := by unfold wk; omega
theorem ws_get (l : List Int) (i : Nat) : (ws l).getD i 0 = wk (l.getD i 0) := by
  unfold ws
  rw [List.getD_eq_getElem?_getD, List.getD_eq_getElem?_getD, List.getElem?_map]
  cases l[i]? with
  | none => rfl
  | some x => rfl
theorem ws_take (l : List Int) (k : Nat) (h : k < l.length) : (ws l).take (k + 1) = (ws l).take k ++ [wk (l.getD k 0)] := by
  rw [← ws_get, List.take_succ_eq_append_getElem (by rw [ws_len]; exact h), List.getD_eq_getElem?_getD, List.getElem?_eq_getElem (by rw [ws_len]; exact h)]
  rfl
theorem ws_mon (l : List Int) (k : Nat) : monTo (ws l) k = true := by
  induction k with
  | zero => rfl
  | succ k ih =>
    have := wk_bd (l.getD k 0)
    rw [monTo, ih, ws_get]
    unfold inR
    rw [decide_eq_true (show 0 ≤ wk (l.getD k 0) by omega), decide_eq_true (show wk (l.getD k 0) ≤ 1152921504606846976 by omega)]
    rfl
theorem ws_sum (l : List Int) (k : Nat) : 0 ≤ smTo (ws l) k ∧ smTo (ws l) k ≤ (k : Int) * 1099511627775 := by
  induction k with
  | zero => simp [smTo]
  | succ k ih =>
    have := wk_bd (l.getD k 0)
    rw [smTo, ws_get]
    omega
theorem ws_good (n : Int) (l : List Int) (h1 : 1 ≤ l.length) (h2 : l.length ≤ 16) (h3 : smTo (ws l) l.length ≠ 0) : Good (wk n).toNat (smTo (ws l) l.length).toNat (ws l) := by
  have hs := ws_sum l l.length
  have hn := wk_bd n
  exact ⟨by rw [ws_len]; exact h1, by rw [ws_len]; exact h2, ws_mon _ _, by rw [ws_len]; omega, by omega, by omega, by omega⟩
theorem okW_ws (l : List Int) (h1 : 1 ≤ l.length) (h2 : l.length ≤ 16) : okW (ws l) = true := by
  unfold okW
  rw [ws_len, decide_eq_true h1, decide_eq_true h2, ws_mon]; rfl
theorem wk_in (n : Int) : inR (wk n) 1152921504606846976 = true := by
  have hn := wk_bd n
  unfold inR
  rw [decide_eq_true (show 0 ≤ wk n by omega), decide_eq_true (show wk n ≤ 1152921504606846976 by omega)]; rfl
theorem splitV_zero (n : Int) (l : List Int) (h1 : 1 ≤ l.length) (h2 : l.length ≤ 16) (h3 : smTo (ws l) l.length = 0) : splitV (wk n) (ws l) = ([], 1) := by
  have hT : totV (ws l) = (0, 1) := by
    unfold totV
    rw [okW_ws l h1 h2, ws_len, h3]; rfl
  unfold splitV
  rw [hT, wk_in]
  rfl
theorem splitV_good (n : Int) (l : List Int) (h1 : 1 ≤ l.length) (h2 : l.length ≤ 16) (h3 : smTo (ws l) l.length ≠ 0) : splitV (wk n) (ws l) = (outV (wk n).toNat (smTo (ws l) l.length).toNat (ws l), 0) := by
  have hs := ws_sum l l.length
  have hT : totV (ws l) = (smTo (ws l) l.length, 0) := by
    unfold totV
    rw [okW_ws l h1 h2, ws_len, if_pos rfl, if_neg (by omega), if_neg h3]
  unfold splitV
  rw [hT, wk_in]
  rfl
end Fee
end Go.Proofs.Ytbfcgaijplhcoaa
