/- The shares of a number: the plain law. -/
import Derived.Test.YtbfcgaijplhcoaaFeeL
import Derived.Sort.LotA
namespace Go.Proofs.Ytbfcgaijplhcoaa
open Go.Sort
namespace Fee
/-- The order of parts: by what is left, from the greatest; then by place. -/
def ltP (x y : Int × Int) : Bool := decide (y.2 < x.2) || (decide (y.2 = x.2) && decide (x.1 < y.1))
theorem cfP_lt (x y : Int × Int) : ltOf cfP x y = decide (y.2 < x.2) := by
  unfold ltOf cfP cmpV
  by_cases h : y.2 < x.2
  · by_cases h2 : x.2 < y.2
    · omega
    · simp [h]
  · rw [if_neg h]; split <;> simp [h]
theorem ltP_swo : SWO ltP := by
  refine ⟨?_, ?_, ?_⟩
  · intro x; simp [ltP]
  · intro x y z h1 h2; simp [ltP] at *; omega
  · intro x y z h1 h2; simp [ltP] at *; omega
theorem inner_eq (j : Nat) (d : Array (Int × Int)) (hj : j < d.size) (h : ∀ q, q < j → d[q]!.1 < d[j]!.1) : insInner (ltOf cfP) 0 j d = insInner ltP 0 j d := by
  induction j generalizing d with
  | zero => rfl
  | succ j ih =>
    rw [insInner, insInner]
    have e : ltOf cfP d[j + 1]! d[j]! = ltP d[j + 1]! d[j]! := by
      have := h j (by omega)
      rw [cfP_lt]; unfold ltP; rw [decide_eq_false (show ¬ d[j + 1]!.1 < d[j]!.1 by omega)]; simp
    rw [e]
    split
    · apply ih
      · rw [swp_size]; omega
      · intro q hq
        rw [swp_get d hj (by omega), swp_get d hj (by omega), if_neg (by omega), if_neg (by omega), if_pos rfl]
        exact h q (by omega)
    · rfl
theorem inner_props (lt : Int × Int → Int × Int → Bool) (p : Int × Int → Prop) (j : Nat) (d : Array (Int × Int)) (hj : j < d.size) :
    (insInner lt 0 j d).size = d.size ∧ (∀ q, j < q → (insInner lt 0 j d)[q]! = d[q]!) ∧ ((∀ q, q ≤ j → p d[q]!) → ∀ q, q ≤ j → p (insInner lt 0 j d)[q]!) := by
  induction j generalizing d with
  | zero => exact ⟨rfl, fun _ _ => rfl, fun h => h⟩
  | succ j ih =>
    rw [insInner]
    split
    · have hs : (swp d (j + 1) j).size = d.size := swp_size _ _ _
      obtain ⟨h1, h2, h3⟩ := ih (swp d (j + 1) j) (by omega)
      have g := swp_get d hj (show j < d.size by omega)
      refine ⟨h1.trans hs, fun q hq => ?_, fun hp q hq => ?_⟩
      · rw [h2 q (by omega), g, if_neg (by omega), if_neg (by omega)]
      · by_cases e : q = j + 1
        · subst e
          rw [h2 _ (by omega), g, if_neg (by omega), if_pos rfl]
          exact hp j (by omega)
        · refine h3 (fun q hq => ?_) q (by omega)
          rw [g]
          by_cases e : q = j
          · rw [if_pos e]; exact hp _ (Nat.le_refl _)
          · rw [if_neg e, if_neg (by omega)]; exact hp q (by omega)
    · exact ⟨rfl, fun _ _ => rfl, fun h => h⟩
theorem outer_eq (b n : Nat) : ∀ (i : Nat) (d : Array (Int × Int)), b - i = n → b ≤ d.size → (∀ q, q < i → d[q]!.1 < (i : Int)) → (∀ q, i ≤ q → q < b → d[q]!.1 = (q : Int)) → insOuter (ltOf cfP) 0 b i d = insOuter ltP 0 b i d := by
  induction n with
  | zero =>
    intro i d hn hb h1 h2
    unfold insOuter
    rw [if_neg (by omega), if_neg (by omega)]
  | succ n ih =>
    intro i d hn hb h1 h2
    unfold insOuter
    rw [if_pos (by omega), if_pos (by omega), inner_eq i d (by omega) (fun q hq => by rw [h2 i (Nat.le_refl _) (by omega)]; exact h1 q hq)]
    obtain ⟨k1, k2, k3⟩ := inner_props ltP (fun x => x.1 < ((i + 1 : Nat) : Int)) i d (by omega)
    refine ih (i + 1) _ (by omega) (by omega) (fun q hq => ?_) (fun q hq hq2 => ?_)
    · refine k3 (fun q hq => ?_) q (by omega)
      by_cases e : q = i
      · subst e; rw [h2 q (Nat.le_refl _) (by omega)]; omega
      · have := h1 q (by omega); omega
    · rw [k2 q (by omega)]; exact h2 q (by omega) hq2
/-- What is left, with its place. -/
def parts0 (r : List Int) : List (Int × Int) := (List.range r.length).map fun (i : Nat) => ((i : Int), r.getD i 0)
theorem parts0_len (r : List Int) : (parts0 r).length = r.length := by simp [parts0]
theorem parts0_get (r : List Int) (i : Nat) (h : i < r.length) : (parts0 r)[i]? = some ((i : Int), r.getD i 0) := by simp [parts0, h]
def order (r : List Int) : List (Int × Int) := (insertionSort (ltOf cfP) (parts0 r).toArray 0 (parts0 r).toArray.size).toList
structure Ranked (r : List Int) (sd : List (Int × Int)) : Prop where
  len : sd.length = r.length
  mem : ∀ p, p < r.length → ∃ i, i < r.length ∧ sd.getD p (0, 0) = ((i : Int), r.getD i 0)
  lt : ∀ p q, p < q → q < r.length → (sd.getD q (0, 0)).2 ≤ (sd.getD p (0, 0)).2 ∧ ((sd.getD q (0, 0)).2 = (sd.getD p (0, 0)).2 → (sd.getD p (0, 0)).1 < (sd.getD q (0, 0)).1)
  inj : ∀ p q, p < q → q < r.length → (sd.getD p (0, 0)).1 ≠ (sd.getD q (0, 0)).1
  sur : ∀ i, i < r.length → ∃ p, p < r.length ∧ sd.getD p (0, 0) = ((i : Int), r.getD i 0)
theorem bang {d : Array (Int × Int)} {p : Nat} (h : p < d.size) : d.toList.getD p (0, 0) = d[p]! := by
  simp [List.getD_eq_getElem?_getD, h]
theorem order_ranked (r : List Int) : Ranked r (order r) := by
  have hl := parts0_len r
  have e : insertionSort (ltOf cfP) (parts0 r).toArray 0 (parts0 r).toArray.size = insertionSort ltP (parts0 r).toArray 0 (parts0 r).toArray.size := by
    unfold insertionSort
    have hq : ∀ q, q < r.length → (parts0 r).toArray[q]!.1 = (q : Int) := fun q hq => by
      rw [List.getElem!_toArray, List.getElem!_eq_getElem?_getD, parts0_get r q hq]; rfl
    by_cases h0 : r.length = 0
    · unfold insOuter
      rw [if_neg (by simp [hl, h0]), if_neg (by simp [hl, h0])]
    · refine outer_eq _ _ 1 _ rfl (Nat.le_refl _) (fun q h => ?_) (fun q h h2 => ?_)
      · rw [hq q (by omega)]; omega
      · exact hq q (by simpa [hl] using h2)
  obtain ⟨⟨p1, p2, p3⟩, p4⟩ := insertionSort_holds ltP_swo (parts0 r).toArray 0 (parts0 r).toArray.size (Nat.zero_le _) (Nat.le_refl _)
  unfold order
  rw [e]
  generalize insertionSort ltP (parts0 r).toArray 0 (parts0 r).toArray.size = d at *
  have hds : d.size = r.length := by rw [p1]; simpa using hl
  have hp : d.toList.Perm (parts0 r) := by
    have h1 : d.extract 0 (parts0 r).toArray.size = d := by rw [← p1]; simp
    rw [h1] at p3
    simpa using p3
  have hlen : d.toList.length = r.length := by simpa using hds
  have hinj : ∀ p q, p < q → q < r.length → (d.toList.getD p (0, 0)).1 ≠ (d.toList.getD q (0, 0)).1 := by
    have n1 : ((parts0 r).map (·.1)).Nodup := by
      unfold parts0
      rw [List.map_map]
      unfold List.Nodup
      rw [List.pairwise_map]
      refine List.Pairwise.imp ?_ List.pairwise_lt_range
      intro a b h h2
      simp at h2
      omega
    have n2 : (d.toList.map (·.1)).Nodup := (hp.map _).nodup_iff.2 n1
    intro p q h1 h2
    have := List.pairwise_iff_getElem.1 n2 p q (by simp; omega) (by simp; omega) h1
    rw [bang (by omega), bang (by omega), getElem!_pos d p (by omega), getElem!_pos d q (by omega)]
    simpa using this
  refine ⟨hlen, fun p hpl => ?_, fun p q h1 h2 => ?_, hinj, fun i hi => ?_⟩
  · have hm : d.toList.getD p (0, 0) ∈ parts0 r := hp.mem_iff.1 (by
      rw [List.getD_eq_getElem?_getD, List.getElem?_eq_getElem (by omega)]; exact List.getElem_mem _)
    unfold parts0 at hm
    rw [List.mem_map] at hm
    obtain ⟨i, hi, e⟩ := hm
    exact ⟨i, by simpa using hi, e.symm⟩
  · have := p4 p q (Nat.zero_le _) h1 (by simp [hl]; omega)
    have hne := hinj p q h1 h2
    rw [bang (by omega), bang (by omega)] at hne ⊢
    simp [ltP] at this
    omega
  · have hm : ((i : Int), r.getD i 0) ∈ d.toList := hp.mem_iff.2 (List.mem_map.2 ⟨i, by simpa using hi, rfl⟩)
    obtain ⟨p, hpl, e⟩ := List.getElem_of_mem hm
    exact ⟨p, by omega, by rw [List.getD_eq_getElem?_getD, List.getElem?_eq_getElem hpl, e]; rfl⟩
/-- The place of the p-th part. -/
def pl (sd : List (Int × Int)) (p : Nat) : Nat := (sd.getD p (0, 0)).1.toNat
theorem Ranked.pl_lt {r : List Int} {sd : List (Int × Int)} (h : Ranked r sd) {p : Nat} (hp : p < r.length) : pl sd p < r.length ∧ sd.getD p (0, 0) = ((pl sd p : Int), r.getD (pl sd p) 0) := by
  obtain ⟨i, hi, e⟩ := h.mem p hp
  have : pl sd p = i := by unfold pl; rw [e]; simp
  rw [this]
  exact ⟨hi, e⟩
theorem Ranked.pl_inj {r : List Int} {sd : List (Int × Int)} (h : Ranked r sd) {p q : Nat} (hp : p < r.length) (hq : q < r.length) (hne : p ≠ q) : pl sd p ≠ pl sd q := by
  have e1 := (h.pl_lt hp).2
  have e2 := (h.pl_lt hq).2
  rcases Nat.lt_or_gt_of_ne hne with hl | hl
  · have := h.inj p q hl hq
    rw [e1, e2] at this
    omega
  · have := h.inj q p hl hp
    rw [e1, e2] at this
    intro e
    rw [e] at this
    simp at this
theorem Ranked.pl_sur {r : List Int} {sd : List (Int × Int)} (h : Ranked r sd) {i : Nat} (hi : i < r.length) : ∃ p, p < r.length ∧ pl sd p = i := by
  obtain ⟨p, hp, e⟩ := h.sur i hi
  exact ⟨p, hp, by unfold pl; rw [e]; simp⟩
theorem Ranked.pl_ord {r : List Int} {sd : List (Int × Int)} (h : Ranked r sd) {p q : Nat} (hpq : p < q) (hq : q < r.length) : r.getD (pl sd q) 0 ≤ r.getD (pl sd p) 0 ∧ (r.getD (pl sd q) 0 = r.getD (pl sd p) 0 → pl sd p < pl sd q) := by
  have := h.lt p q hpq hq
  rw [(h.pl_lt (show p < r.length by omega)).2, (h.pl_lt hq).2] at this
  refine ⟨this.1, fun e => ?_⟩
  have := this.2 e
  simpa using this
/-- One more for each part. -/
def incs (o : List Int) (sd : List (Int × Int)) : Nat → List Int
  | 0 => o
  | p + 1 => (incs o sd p).set (pl sd p) ((incs o sd p).getD (pl sd p) 0 + 1)
theorem incs_len (o : List Int) (sd : List (Int × Int)) (p : Nat) : (incs o sd p).length = o.length := by
  induction p with
  | zero => rfl
  | succ p ih => rw [incs, List.length_set, ih]
/-- What is left, those that were taken struck. -/
def rests (r : List Int) (sd : List (Int × Int)) : Nat → List Int
  | 0 => r
  | p + 1 => (rests r sd p).set (pl sd p) (-1)
theorem rests_len (r : List Int) (sd : List (Int × Int)) (p : Nat) : (rests r sd p).length = r.length := by
  induction p with
  | zero => rfl
  | succ p ih => rw [rests, List.length_set, ih]
theorem getD_set (l : List Int) (i j : Nat) (x : Int) : (l.set i x).getD j 0 = if i = j ∧ i < l.length then x else l.getD j 0 := by
  simp only [List.getD_eq_getElem?_getD, List.getElem?_set]
  by_cases h : i = j
  · subst h
    by_cases h2 : i < l.length
    · simp [h2]
    · simp [h2]
  · simp [h]
theorem rests_get {r : List Int} {sd : List (Int × Int)} (h : Ranked r sd) (i p : Nat) (hp : p ≤ r.length) :
    ((∃ q, q < p ∧ pl sd q = i) → (rests r sd p).getD i 0 = -1) ∧ ((∀ q, q < p → pl sd q ≠ i) → (rests r sd p).getD i 0 = r.getD i 0) := by
  induction p with
  | zero => exact ⟨fun ⟨q, hq, _⟩ => by omega, fun _ => rfl⟩
  | succ p ih =>
    obtain ⟨i1, i2⟩ := ih (by omega)
    have hb := (h.pl_lt (show p < r.length by omega)).1
    rw [rests, getD_set, rests_len]
    refine ⟨fun ⟨q, hq, e⟩ => ?_, fun hn => ?_⟩
    · by_cases e2 : pl sd p = i
      · rw [if_pos ⟨e2, hb⟩]
      · rw [if_neg (fun x => e2 x.1)]
        refine i1 ⟨q, ?_, e⟩
        rcases Nat.lt_or_eq_of_le (show q ≤ p by omega) with hl | he
        · exact hl
        · subst he; exact absurd e e2
    · rw [if_neg (fun x => hn p (by omega) x.1)]
      exact i2 fun q hq => hn q (by omega)
theorem incs_get {r : List Int} {sd : List (Int × Int)} (h : Ranked r sd) (o : List Int) (ho : o.length = r.length) (i p : Nat) (hp : p ≤ r.length) :
    ((∃ q, q < p ∧ pl sd q = i) → (incs o sd p).getD i 0 = o.getD i 0 + 1) ∧ ((∀ q, q < p → pl sd q ≠ i) → (incs o sd p).getD i 0 = o.getD i 0) := by
  induction p with
  | zero => exact ⟨fun ⟨q, hq, _⟩ => by omega, fun _ => rfl⟩
  | succ p ih =>
    obtain ⟨i1, i2⟩ := ih (by omega)
    have hb := (h.pl_lt (show p < r.length by omega)).1
    rw [incs, getD_set, incs_len]
    refine ⟨fun ⟨q, hq, e⟩ => ?_, fun hn => ?_⟩
    · by_cases e2 : pl sd p = i
      · rw [if_pos ⟨e2, by omega⟩, e2, i2]
        intro q2 hq2 e3
        exact h.pl_inj (by omega) (by omega) (show q2 ≠ p by omega) (e3.trans e2.symm)
      · rw [if_neg (fun x => e2 x.1)]
        refine i1 ⟨q, ?_, e⟩
        rcases Nat.lt_or_eq_of_le (show q ≤ p by omega) with hl | he
        · exact hl
        · subst he; exact absurd e e2
    · rw [if_neg (fun x => hn p (by omega) x.1)]
      exact i2 fun q hq => hn q (by omega)
/-- The first greatest among the first i. -/
def fm (r : List Int) : Nat → Nat
  | 0 => 0
  | i + 1 => if r.getD (fm r i) 0 < r.getD i 0 then i else fm r i
theorem fm_lt (r : List Int) (i : Nat) (h : 0 < i) : fm r i < i := by
  induction i with
  | zero => omega
  | succ i ih =>
    rw [fm]
    split
    · omega
    · by_cases e : i = 0
      · subst e; exact Nat.lt_succ_self _
      · have := ih (by omega); omega
theorem fm_eq (r : List Int) (n k : Nat) (hk : k < n) (h1 : ∀ i, i < n → r.getD i 0 ≤ r.getD k 0) (h2 : ∀ i, i < k → r.getD i 0 < r.getD k 0) (m : Nat) (hm : k < m) (hmn : m ≤ n) : fm r m = k := by
  induction m with
  | zero => omega
  | succ m ih =>
    rw [fm]
    by_cases e : k = m
    · subst e
      by_cases e0 : k = 0
      · subst e0; split <;> rfl
      · rw [if_pos (h2 _ (fm_lt r k (by omega)))]
    · rw [ih (by omega) (by omega), if_neg (by have := h1 m (by omega); omega)]
theorem rests_first {r : List Int} {sd : List (Int × Int)} (h : Ranked r sd) (h0 : ∀ i, i < r.length → 0 ≤ r.getD i 0) (p : Nat) (hp : p < r.length) : fm (rests r sd p) r.length = pl sd p := by
  have hb := (h.pl_lt hp).1
  have hk : (rests r sd p).getD (pl sd p) 0 = r.getD (pl sd p) 0 := (rests_get h _ p (by omega)).2 fun q hq => h.pl_inj (by omega) hp (by omega)
  have h00 := h0 _ hb
  refine fm_eq _ _ _ hb (fun i hi => ?_) (fun i hi => ?_) _ hb (Nat.le_refl _)
  · rw [hk]
    obtain ⟨q, hq, e⟩ := h.pl_sur hi
    by_cases hqp : q < p
    · rw [(rests_get h i p (by omega)).1 ⟨q, hqp, e⟩]; omega
    · rw [(rests_get h i p (by omega)).2 fun q2 hq2 e2 => h.pl_inj (by omega) hq (show q2 ≠ q by omega) (e2.trans e.symm)]
      by_cases e3 : p = q
      · subst e3; rw [e]; exact Int.le_refl _
      · have := (h.pl_ord (show p < q by omega) hq).1; rwa [e] at this
  · rw [hk]
    obtain ⟨q, hq, e⟩ := h.pl_sur (show i < r.length by omega)
    by_cases hqp : q < p
    · rw [(rests_get h i p (by omega)).1 ⟨q, hqp, e⟩]; omega
    · rw [(rests_get h i p (by omega)).2 fun q2 hq2 e2 => h.pl_inj (by omega) hq (show q2 ≠ q by omega) (e2.trans e.symm)]
      by_cases e3 : p = q
      · subst e3; omega
      · have := h.pl_ord (show p < q by omega) hq
        rw [e] at this
        by_cases e4 : r.getD i 0 = r.getD (pl sd p) 0
        · have := this.2 e4; omega
        · have := this.1; omega
/-- The sum of the first k of numbers. -/
def sN (f : Nat → Nat) : Nat → Nat
  | 0 => 0
  | k + 1 => sN f k + f k
theorem sN_part (n s : Nat) (w : Nat → Nat) (k : Nat) : s * sN (fun i => n * w i / s) k + sN (fun i => n * w i % s) k = n * sN w k := by
  induction k with
  | zero => simp [sN]
  | succ k ih =>
    simp only [sN]
    have := Nat.div_add_mod (n * w k) s
    rw [Nat.mul_add, Nat.mul_add]
    omega
theorem sN_lt (f : Nat → Nat) (s : Nat) (h : ∀ i, f i < s) (k : Nat) : sN f k + k ≤ s * k := by
  induction k with
  | zero => simp [sN]
  | succ k ih =>
    have := h k
    simp only [sN]
    rw [Nat.mul_add, Nat.mul_one]
    omega
theorem sN_mono (f : Nat → Nat) {j k : Nat} (h : j ≤ k) : sN f j ≤ sN f k := by
  induction k with
  | zero => obtain rfl : j = 0 := by omega
            exact Nat.le_refl _
  | succ k ih =>
    by_cases e : j = k + 1
    · subst e; exact Nat.le_refl _
    · have := ih (by omega); simp only [sN]; omega
/-- All shares that were rounded down are no more than what is shared; and what lacks is less than how many there are. -/
theorem more_bd (n s : Nat) (w : Nat → Nat) (k : Nat) (hs : sN w k = s) (h0 : 0 < s) (hk : 0 < k) : sN (fun i => n * w i / s) k ≤ n ∧ n - sN (fun i => n * w i / s) k < k := by
  have h1 := sN_part n s w k
  rw [hs, Nat.mul_comm n s] at h1
  have h2 := sN_lt (fun i => n * w i % s) s (fun i => Nat.mod_lt _ h0) k
  have h3 : s * sN (fun i => n * w i / s) k ≤ s * n := by omega
  have h4 := Nat.le_of_mul_le_mul_left h3 h0
  refine ⟨h4, ?_⟩
  have h5 : s * (n - sN (fun i => n * w i / s) k) < s * k := by
    rw [Nat.mul_sub]; omega
  exact Nat.lt_of_mul_lt_mul_left h5
theorem smTo_set (l : List Int) (i : Nat) (x : Int) (hi : i < l.length) (k : Nat) : smTo (l.set i x) k = smTo l k + if i < k then x - l.getD i 0 else 0 := by
  induction k with
  | zero => simp [smTo]
  | succ k ih =>
    rw [smTo, smTo, ih, getD_set]
    by_cases e : i = k
    · subst e
      rw [if_neg (show ¬ i < i by omega), if_pos (show i = i ∧ i < l.length from ⟨rfl, hi⟩), if_pos (show i < i + 1 by omega)]; omega
    · rw [if_neg (show ¬ (i = k ∧ i < l.length) from fun h => e h.1)]
      by_cases h : i < k
      · rw [if_pos h, if_pos (show i < k + 1 by omega)]; omega
      · rw [if_neg h, if_neg (show ¬ i < k + 1 by omega)]; omega
theorem smTo_incs {r : List Int} {sd : List (Int × Int)} (h : Ranked r sd) (o : List Int) (ho : o.length = r.length) (p : Nat) (hp : p ≤ r.length) : smTo (incs o sd p) r.length = smTo o r.length + (p : Int) := by
  induction p with
  | zero => simp [incs]
  | succ p ih =>
    have hb := (h.pl_lt (show p < r.length by omega)).1
    rw [incs, smTo_set _ _ _ (by rw [incs_len]; omega), ih (by omega), if_pos hb]
    omega
end Fee
end Go.Proofs.Ytbfcgaijplhcoaa
