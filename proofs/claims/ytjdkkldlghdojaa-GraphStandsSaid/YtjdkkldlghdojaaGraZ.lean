/- Orders and rounds: plain laws. -/
import Derived.Test.YtjdkkldlghdojaaGraY3
namespace Go.Proofs.Ytjdkkldlghdojaa
namespace Gra
theorem take_mem {l : List Int} {k : Nat} (hk : k ≤ l.length) {x : Int} (h : x ∈ l.take k) : ∃ j, j < k ∧ l.getD j 0 = x := by
  obtain ⟨j, hj, e⟩ := List.getElem_of_mem h
  rw [List.length_take] at hj
  refine ⟨j, by omega, ?_⟩
  rw [List.getElem_take] at e
  rw [List.getD_eq_getElem?_getD, List.getElem?_eq_getElem (by omega), Option.getD_some, e]
theorem mem_at {l : List Int} {x : Int} (h : x ∈ l) : ∃ j, j < l.length ∧ l.getD j 0 = x := by
  obtain ⟨j, hj, e⟩ := List.getElem_of_mem h
  exact ⟨j, hj, by rw [List.getD_eq_getElem?_getD, List.getElem?_eq_getElem hj, Option.getD_some, e]⟩
theorem take_sub {l : List Int} {j k : Nat} (h : j ≤ k) {x : Int} (hx : x ∈ l.take j) : x ∈ l.take k := by
  rw [show l.take j = (l.take k).take j by rw [List.take_take, Nat.min_eq_left h]] at hx
  exact List.mem_of_mem_take hx
/-- What needs lead to stands ahead. -/
theorem rch_ahead {E : List (Int × Int)} {xs : List Int} (hA : ∀ k, k < xs.length → ∀ e ∈ E, e.1 = xs.getD k 0 → e.2 ∈ xs.take k) {k : Nat} (hk : k < xs.length) {y : Int} (h : Rch E (xs.getD k 0) y) : y ∈ xs.take k := by
  induction h with
  | one e => exact hA k hk _ e rfl
  | @next p q _ e ih =>
    obtain ⟨j, hj, e1⟩ := take_mem (Nat.le_of_lt hk) ih
    exact take_sub (Nat.le_of_lt hj) (hA j (by omega) _ e (by rw [e1]))
theorem no_round {n : Nat} {E : List (Int × Int)} (hf : ¬ (ord n E).length < n) {x : Nat} (h1 : 1 ≤ x) (h2 : x ≤ n) : ¬ Rch E (x : Int) (x : Int) := by
  intro h
  obtain ⟨k, hk, e⟩ := mem_at (full_mem (ordG_ok n E n) (by unfold ord at hf; omega) x h1 h2)
  have := rch_ahead (ordG_ahead n E n) hk (y := (x : Int)) (by rw [e]; exact h)
  rw [← e] at this
  exact nodup_take (ordG_ok n E n).nodup hk this
theorem belTo_nodup (E : List (Int × Int)) (nd : Int) (k : Nat) : (belTo E nd k).Nodup := by
  induction k with
  | zero => simp [belTo]
  | succ k ih =>
    rw [belTo]
    split
    · rw [List.nodup_append]
      refine ⟨ih, by simp, fun a ha b hb => ?_⟩
      rw [belTo_mem] at ha
      simp at hb
      omega
    · exact ih
/-- A list within another one that has one more is shorter. -/
theorem nodup_sub_lt {l m : List Int} (hl : l.Nodup) (hs : ∀ x ∈ l, x ∈ m) {y : Int} (hy : y ∈ m) (hn : y ∉ l) : l.length < m.length := by
  have key : ∀ (l m : List Int), l.Nodup → (∀ x ∈ l, x ∈ m) → l.length ≤ m.length := by
    intro l
    induction l with
    | nil => intro m _ _; exact Nat.zero_le _
    | cons a l ih =>
      intro m hn hs
      rw [List.nodup_cons] at hn
      have ha := hs a List.mem_cons_self
      have h1 := ih (m.erase a) hn.2 (fun x hx => (List.mem_erase_of_ne (fun e => hn.1 (by rw [← e]; exact hx))).2 (hs x (List.mem_cons_of_mem _ hx)))
      rw [List.length_erase_of_mem ha] at h1
      have := List.length_pos_of_mem ha
      simp only [List.length_cons]
      omega
  have := key (y :: l) m (List.nodup_cons.2 ⟨hn, hl⟩) (fun x hx => by
    rcases List.mem_cons.1 hx with rfl | hx
    · exact hy
    · exact hs x hx)
  rw [List.length_cons] at this
  omega
/-- Where no node is below itself there is an order. -/
theorem full_of {n : Nat} {E : List (Int × Int)} (hr : ∀ e ∈ E, (1 ≤ e.1 ∧ e.1 ≤ (n : Int)) ∧ (1 ≤ e.2 ∧ e.2 ≤ (n : Int))) (hno : ∀ x : Nat, 1 ≤ x → x ≤ n → ¬ Rch E (x : Int) (x : Int)) : (ord n E).length = n := by
  have stop : ∀ j, j ≤ (ordG n E j).length ∨ pick n E (ordG n E j) = 0 := by
    intro j
    induction j with
    | zero => exact .inl (Nat.zero_le _)
    | succ j ih =>
      by_cases h : pick n E (ordG n E j) = 0
      · right
        have := ordG_stop h 1
        rw [this]; exact h
      · left
        rw [ordG_go h, List.length_append, List.length_singleton]
        rcases ih with ih | ih
        · omega
        · exact absurd ih h
  have hok := ordG_ok n E n
  rcases stop n with h | h
  · have := hok.len
    unfold ord; omega
  · -- all are in
    have all : ∀ m : Nat, ∀ x : Nat, 1 ≤ x → x ≤ n → (belTo E (x : Int) n).length ≤ m → (x : Int) ∈ ordG n E n := by
      intro m
      induction m with
      | zero =>
        intro x h1 h2 h3
        by_cases hm : (x : Int) ∈ ordG n E n
        · exact hm
        · exfalso
          rcases pick_is n E (ordG n E n) with ⟨_, h4⟩ | ⟨p, e, h5, _⟩
          · have h6 := h4 x h1 h2
            have h7 : ¬ (rdy E (ordG n E n) (x : Int) = true) := by rw [h6]; decide
            rw [rdy_iff] at h7
            refine h7 ⟨hm, fun e he e1 => ?_⟩
            have hb : e.2 ∈ belTo E (x : Int) n := (belTo_mem _ _ _ _).2 ⟨(hr e he).2.1, (hr e he).2.2, .one (by rw [← e1]; exact he)⟩
            have := List.length_pos_of_mem hb
            omega
          · omega
      | succ m ih =>
        intro x h1 h2 h3
        by_cases hm : (x : Int) ∈ ordG n E n
        · exact hm
        · exfalso
          rcases pick_is n E (ordG n E n) with ⟨_, h4⟩ | ⟨p, e, h5, _⟩
          · have h6 := h4 x h1 h2
            have h7 : ¬ (rdy E (ordG n E n) (x : Int) = true) := by rw [h6]; decide
            rw [rdy_iff] at h7
            refine h7 ⟨hm, fun e he e1 => ?_⟩
            have hr2 := (hr e he).2
            obtain ⟨y, hy⟩ : ∃ y : Nat, e.2 = (y : Int) := ⟨e.2.toNat, by omega⟩
            have hxy : Rch E (x : Int) (y : Int) := .one (by rw [← e1, ← hy]; exact he)
            rw [hy]
            refine ih y (by omega) (by omega) ?_
            have hlt := nodup_sub_lt (belTo_nodup E (y : Int) n) (m := belTo E (x : Int) n) (fun z hz => by
              rw [belTo_mem] at hz ⊢
              exact ⟨hz.1, hz.2.1, hxy.trans hz.2.2⟩) (y := (y : Int)) ((belTo_mem _ _ _ _).2 ⟨by omega, by omega, hxy⟩) (fun h => by
              rw [belTo_mem] at h
              exact hno y (by omega) (by omega) h.2.2)
            omega
          · omega
    have hle := hok.len
    by_cases hc : (ordG n E n).length < n
    · exfalso
      have hall := fun x h1 h2 => all n x h1 h2 (belTo_len _ _ _)
      have key : ∀ k, k ≤ n → ∀ l : List Int, (∀ x : Nat, 1 ≤ x → x ≤ k → (x : Int) ∈ l) → k ≤ l.length := by
        intro k
        induction k with
        | zero => intro _ l _; exact Nat.zero_le _
        | succ k ih =>
          intro hk l hl
          have h1 := hl (k + 1) (by omega) (Nat.le_refl _)
          have h2 := ih (by omega) (l.erase ((k + 1 : Nat) : Int)) (fun x a b => (List.mem_erase_of_ne (by omega)).2 (hl x a (by omega)))
          rw [List.length_erase_of_mem h1] at h2
          have := List.length_pos_of_mem h1
          omega
      have := key n (Nat.le_refl _) _ hall
      omega
    · unfold ord; omega
/-- Ways that are told stay. -/
theorem wyT_keep {z : Int} {E : List (Int × Int)} {xs : List Int} (hn : xs.Nodup) {k j : Nat} (hkj : k ≤ j) (hj : j ≤ xs.length) {i : Int} (hi : i ∈ xs.take k) : wyT z E xs j i = wyT z E xs k i := by
  induction j with
  | zero => have : k = 0 := by omega
            subst this; rfl
  | succ j ih =>
    by_cases e : k = j + 1
    · subst e; rfl
    · rw [wyT_off (fun e2 => nodup_take hn (show j < xs.length by omega) (by rw [← e2]; exact take_sub (by omega) hi)), ih (by omega) (by omega)]
theorem wyT_final {z : Int} {E : List (Int × Int)} {xs : List Int} (hn : xs.Nodup) (hA : ∀ k, k < xs.length → ∀ e ∈ E, e.1 = xs.getD k 0 → e.2 ∈ xs.take k) {x : Int} (hx : x ∈ xs) (hz : x ≠ z) :
    wyT z E xs xs.length x = smW (wyT z E xs xs.length) (ndsF E x) (ndsF E x).length := by
  obtain ⟨k, hk, e⟩ := mem_at hx
  have h1 : wyT z E xs xs.length x = wyT z E xs (k + 1) x := wyT_keep hn hk (Nat.le_refl _) (by rw [take_snocI xs k hk, e]; simp)
  rw [h1, ← e, wyT_at (by rw [e]; exact hz)]
  refine smW_congr _ _ fun i hi => ?_
  have hm := getD_memI _ _ hi
  exact (wyT_keep hn (Nat.le_of_lt hk) (Nat.le_refl _) (hA k hk _ (nds_mem.1 hm) rfl)).symm
/-- Where needs lead there are ways. -/
theorem ways_pos {z : Int} {E : List (Int × Int)} {xs : List Int} (hn : xs.Nodup) (hA : ∀ k, k < xs.length → ∀ e ∈ E, e.1 = xs.getD k 0 → e.2 ∈ xs.take k) {x : Int} (hx : x ∈ xs) (h : Rch E x z) : 1 ≤ wyT z E xs xs.length x := by
  have step : ∀ p q : Int, p ∈ xs → (p, q) ∈ E → 1 ≤ wyT z E xs xs.length q → 1 ≤ wyT z E xs xs.length p := by
    intro p q hp he hq
    by_cases e : p = z
    · subst e; rw [wyT_to]; omega
    · rw [wyT_final hn hA hp e]
      obtain ⟨i, hi, e2⟩ := mem_at (nds_mem.2 he)
      have := smW_part (wyT_nn z E xs xs.length) (ndsF E p) hi
      rw [e2] at this
      omega
  have mem : ∀ p q : Int, p ∈ xs → Rch E p q → q ∈ xs := by
    intro p q hp hr
    obtain ⟨k, hk, e⟩ := mem_at hp
    exact List.mem_of_mem_take (rch_ahead hA hk (by rw [e]; exact hr))
  have all : ∀ q : Int, Rch E x q → 1 ≤ wyT z E xs xs.length q → 1 ≤ wyT z E xs xs.length x := by
    intro q hq
    induction hq with
    | one e => exact fun h1 => step x _ hx e h1
    | @next p q hp e ih => exact fun h1 => ih (step p q (mem x p hx hp) e h1)
  exact all z h (by rw [wyT_to]; omega)
theorem smW_le {T : Int → Int} {B : Int} (ys : List Int) (j : Nat) (h : ∀ i, i < j → T (ys.getD i 0) ≤ B) : smW T ys j ≤ j * B := by
  induction j with
  | zero => simp [smW]
  | succ j ih =>
    rw [smW]
    have h1 := ih fun i hi => h i (by omega)
    have h2 := h j (by omega)
    rw [show ((j + 1 : Nat) : Int) * B = j * B + B by rw [Int.natCast_add, Int.add_mul]; simp]
    omega
/-- Few needs have few ways. -/
theorem ways_few {z : Int} {E : List (Int × Int)} {xs : List Int} (hA : ∀ k, k < xs.length → ∀ e ∈ E, e.1 = xs.getD k 0 → e.2 ∈ xs.take k) (hE : E.length ≤ 40) (k : Nat) (hk : k + 1 ≤ xs.length) : ∀ i, wyT z E xs (k + 1) i ≤ ((40 ^ k : Nat) : Int) := by
  induction k with
  | zero =>
    intro i
    have e : ndsF E (xs.getD 0 0) = [] := by
      cases hc : ndsF E (xs.getD 0 0) with
      | nil => rfl
      | cons a l =>
        have := hA 0 (by omega) _ (nds_mem.1 (show a ∈ ndsF E (xs.getD 0 0) by rw [hc]; exact List.mem_cons_self)) rfl
        simp at this
    show wy1 z E (wyT z E xs 0) (xs.getD 0 0) i ≤ 1
    unfold wy1
    split
    · split
      · omega
      · rw [e]; simp [smW]
    · unfold wyT; split <;> omega
  | succ k ih =>
    have ih' := ih (by omega)
    have hp : ((40 ^ (k + 1) : Nat) : Int) = 40 * ((40 ^ k : Nat) : Int) := by rw [Nat.pow_succ]; omega
    have hpos : 0 < 40 ^ k := Nat.pow_pos (by omega)
    have h0 : (0 : Int) ≤ ((40 ^ k : Nat) : Int) := Int.natCast_nonneg _
    have h1 : (1 : Int) ≤ ((40 ^ k : Nat) : Int) := by exact_mod_cast hpos
    intro i
    show wy1 z E (wyT z E xs (k + 1)) (xs.getD (k + 1) 0) i ≤ _
    unfold wy1
    rw [hp]
    split
    · split
      · omega
      · have h2 := smW_le (T := wyT z E xs (k + 1)) (ndsF E (xs.getD (k + 1) 0)) (ndsF E (xs.getD (k + 1) 0)).length (B := ((40 ^ k : Nat) : Int)) fun j _ => ih' _
        have h3 := ndsF_len E (xs.getD (k + 1) 0)
        have h4 : (((ndsF E (xs.getD (k + 1) 0)).length : Nat) : Int) * ((40 ^ k : Nat) : Int) ≤ 40 * ((40 ^ k : Nat) : Int) := Int.mul_le_mul_of_nonneg_right (by omega) h0
        omega
    · have := ih' i; omega
theorem ways_le {n : Nat} {z : Int} {E : List (Int × Int)} (hE : E.length ≤ 40) (hn : n ≤ 12) (x : Int) : waysV n E x z ≤ MX := by
  unfold waysV
  have hl := (ordG_ok n E n).len
  cases hc : (ord n E).length with
  | zero =>
    unfold wyT MX; split <;> omega
  | succ k =>
    have h1 := ways_few (z := z) (ordG_ahead n E n) hE k (by unfold ord at hc; omega) x
    have h2 : (40 ^ k : Nat) ≤ 40 ^ 11 := Nat.pow_le_pow_right (by omega) (by unfold ord at hc; omega)
    have h3 : (40 ^ 11 : Nat) = 419430400000000000 := by decide
    unfold MX
    show wyT z E (ord n E) (k + 1) x ≤ _
    unfold ord at *
    omega
/-- Deeper. -/
theorem dp1_get (x y : Int) (o : List Int) (j : Nat) : (dp1 x y o).getD j 0 = if (x - 1).toNat = j ∧ (x - 1).toNat < o.length then max (o.getD (x - 1).toNat 0) (o.getD (y - 1).toNat 0 + 1) else o.getD j 0 := by unfold dp1; rw [getD_set]
theorem dpN_off {x : Int} {j : Nat} (h : (x - 1).toNat ≠ j) (ys : List Int) : ∀ o, (dpN x ys o).getD j 0 = o.getD j 0 := by
  induction ys with
  | nil => exact fun o => rfl
  | cons y ys ih =>
    intro o
    show (dpN x ys (dp1 x y o)).getD j 0 = _
    rw [ih, dp1_get, if_neg (fun h2 => h h2.1)]
theorem dpN_ge {x : Int} (ys : List Int) : ∀ o : List Int, (x - 1).toNat < o.length → o.getD (x - 1).toNat 0 ≤ (dpN x ys o).getD (x - 1).toNat 0 ∧ ∀ y ∈ ys, (y - 1).toNat ≠ (x - 1).toNat → o.getD (y - 1).toNat 0 + 1 ≤ (dpN x ys o).getD (x - 1).toNat 0 := by
  induction ys with
  | nil => exact fun o _ => ⟨Int.le_refl _, fun y hy => by cases hy⟩
  | cons y ys ih =>
    intro o ho
    obtain ⟨h1, h2⟩ := ih (dp1 x y o) (by rw [dp1_len]; exact ho)
    show _ ≤ (dpN x ys (dp1 x y o)).getD _ 0 ∧ ∀ y' ∈ y :: ys, _ → _ ≤ (dpN x ys (dp1 x y o)).getD _ 0
    have h3 := dp1_get x y o (x - 1).toNat
    rw [if_pos ⟨rfl, ho⟩] at h3
    refine ⟨by omega, fun y' hy' hne => ?_⟩
    rcases List.mem_cons.1 hy' with rfl | hy'
    · omega
    · have h4 := h2 y' hy' hne
      rw [dp1_get, if_neg (fun e => hne e.1.symm)] at h4
      exact h4
theorem dpA_keep {E : List (Int × Int)} {xs : List Int} (hr : ∀ x ∈ xs, 1 ≤ x) (hn : xs.Nodup) (o : List Int) {k j : Nat} (hkj : k ≤ j) (hj : j ≤ xs.length) {i : Int} (hi : i ∈ xs.take k) : (dpA E (xs.take j) o).getD (i - 1).toNat 0 = (dpA E (xs.take k) o).getD (i - 1).toNat 0 := by
  induction j with
  | zero => have : k = 0 := by omega
            subst this; rfl
  | succ j ih =>
    by_cases e : k = j + 1
    · subst e; rfl
    · rw [dpA_snoc E xs j (by omega), dpN_off, ih (by omega) (by omega)]
      have h1 := hr _ (getD_memI xs j (by omega))
      have h2 := hr _ (List.mem_of_mem_take hi)
      have h3 : xs.getD j 0 ≠ i := fun e2 => nodup_take hn (show j < xs.length by omega) (by rw [e2]; exact take_sub (by omega) hi)
      omega
theorem deeper {n : Nat} {E : List (Int × Int)} (hf : ¬ (ord n E).length < n) (hr : ∀ e ∈ E, (1 ≤ e.1 ∧ e.1 ≤ (n : Int)) ∧ (1 ≤ e.2 ∧ e.2 ≤ (n : Int))) {e : Int × Int} (he : e ∈ E) : (deepF n E).getD (e.2 - 1).toNat 0 < (deepF n E).getD (e.1 - 1).toNat 0 := by
  obtain ⟨h1, h2⟩ := hr e he
  have hok := ordG_ok n E n
  have hm := full_mem hok (by unfold ord at hf; omega) e.1.toNat (by omega) (by omega)
  rw [show ((e.1.toNat : Nat) : Int) = e.1 by omega] at hm
  obtain ⟨k, hk, ek⟩ := mem_at hm
  have hy := ordG_ahead n E n k hk e he ek.symm
  have hr1 : ∀ x ∈ ordG n E n, 1 ≤ x := fun x hx => (hok.range x hx).1
  have hxk := nodup_take hok.nodup hk
  rw [ek] at hxk
  have hne : e.2 ≠ e.1 := fun e2 => hxk (by rw [← e2]; exact hy)
  have a1 := dpA_keep (E := E) hr1 hok.nodup (List.replicate n 0) (show k + 1 ≤ (ordG n E n).length from hk) (Nat.le_refl _) (i := e.1) (by rw [take_snocI _ k hk, ek]; simp)
  have a2 := dpA_keep (E := E) hr1 hok.nodup (List.replicate n 0) (Nat.le_of_lt hk) (Nat.le_refl _) hy
  rw [List.take_length] at a1 a2
  unfold deepF ord
  rw [a1, a2, dpA_snoc E _ k hk, ek]
  have hl : (dpA E ((ordG n E n).take k) (List.replicate n 0)).length = n := by rw [dpA_len, List.length_replicate]
  have := (dpN_ge (x := e.1) (ndsF E e.1) (dpA E ((ordG n E n).take k) (List.replicate n 0)) (by rw [hl]; omega)).2 e.2 (nds_mem.2 he) (by omega)
  omega
end Gra
end Go.Proofs.Ytjdkkldlghdojaa
