/- The order of nodes, in plain words: what is ready, what comes next, what is open. -/
import Derived.Test.YtjdkkldlghdojaaGraA
namespace Go.Proofs.Ytjdkkldlghdojaa
namespace Gra
/-- The needs of a node that are not met yet. -/
def opn (E : List (Int × Int)) (out : List Int) (x : Int) : List (Int × Int) := E.filter fun e => e.1 == x && !(out.contains e.2)
def cnt (E : List (Int × Int)) (out : List Int) (x : Int) : Int := ((opn E out x).length : Int)
def rdy (E : List (Int × Int)) (out : List Int) (k : Int) : Bool := !(out.contains k) && E.all (fun e => e.1 != k || out.contains e.2)
theorem rdy_iff (E : List (Int × Int)) (out : List Int) (k : Int) : rdy E out k = true ↔ k ∉ out ∧ ∀ e ∈ E, e.1 = k → e.2 ∈ out := by
  unfold rdy
  rw [Bool.and_eq_true, List.all_eq_true]
  constructor
  · rintro ⟨h1, h2⟩
    refine ⟨by simpa using h1, fun e he hk => ?_⟩
    have := h2 e he
    rw [hk] at this
    simpa using this
  · rintro ⟨h1, h2⟩
    refine ⟨by simpa using h1, fun e he => ?_⟩
    by_cases hk : e.1 = k
    · have := h2 e he hk
      simp [this]
    · simp [hk]
theorem cnt_nn (E : List (Int × Int)) (out : List Int) (x : Int) : 0 ≤ cnt E out x := by unfold cnt; omega
theorem cnt_zero (E : List (Int × Int)) (out : List Int) (k : Int) : cnt E out k = 0 ↔ ∀ e ∈ E, e.1 = k → e.2 ∈ out := by
  unfold cnt opn
  rw [show (((E.filter fun e => e.1 == k && !(out.contains e.2)).length : Int) = 0) ↔ (E.filter fun e => e.1 == k && !(out.contains e.2)) = [] from ⟨fun h => List.length_eq_zero_iff.1 (by omega), fun h => by rw [h]; rfl⟩]
  rw [List.filter_eq_nil_iff]
  constructor
  · intro h e he hk
    have := h e he
    simpa [hk] using this
  · intro h e he
    by_cases hk : e.1 = k
    · have := h e he hk
      simp [this]
    · simp [hk]
theorem rdy_cnt (E : List (Int × Int)) (out : List Int) (k : Int) : rdy E out k = true ↔ k ∉ out ∧ cnt E out k = 0 := by rw [rdy_iff, cnt_zero]
/-- The least node that is ready; 0: there is none. -/
def pick (n : Nat) (E : List (Int × Int)) (out : List Int) : Int := (((List.range n).map fun i => ((i + 1 : Nat) : Int)).find? (rdy E out)).getD 0
def IsPick (lo n : Nat) (E : List (Int × Int)) (out : List Int) (v : Int) : Prop :=
  (v = 0 ∧ ∀ k : Nat, lo ≤ k → k ≤ n → rdy E out (k : Int) = false) ∨ ∃ p : Nat, v = (p : Int) ∧ lo ≤ p ∧ p ≤ n ∧ rdy E out (p : Int) = true ∧ ∀ k : Nat, lo ≤ k → k < p → rdy E out (k : Int) = false
theorem pick_is (n : Nat) (E : List (Int × Int)) (out : List Int) : IsPick 1 n E out (pick n E out) := by
  unfold pick
  cases h : ((List.range n).map fun i => ((i + 1 : Nat) : Int)).find? (rdy E out) with
  | none =>
    refine .inl ⟨rfl, fun k h1 h2 => ?_⟩
    rw [List.find?_eq_none] at h
    have := h (k : Int) (List.mem_map.2 ⟨k - 1, List.mem_range.2 (by omega), by congr 1; omega⟩)
    simpa using this
  | some v =>
    right
    rw [List.find?_map] at h
    cases h2 : (List.range n).find? (rdy E out ∘ fun i => ((i + 1 : Nat) : Int)) with
    | none => rw [h2] at h; cases h
    | some i =>
      rw [h2] at h
      simp only [Option.map_some, Option.some.injEq] at h
      rw [List.find?_range_eq_some] at h2
      refine ⟨i + 1, by rw [Option.getD_some]; exact h.symm, by omega, ?_, ?_, fun k h3 h4 => ?_⟩
      · have := List.mem_range.1 h2.2.1; omega
      · exact h2.1
      · have := h2.2.2 (k - 1) (by omega)
        simp only [Function.comp] at this
        rw [show k - 1 + 1 = k by omega] at this
        simpa using this
theorem pick_uniq {lo n : Nat} {E : List (Int × Int)} {out : List Int} {u v : Int} (h1 : IsPick lo n E out u) (h2 : IsPick lo n E out v) : u = v := by
  rcases h1 with ⟨rfl, a⟩ | ⟨p, rfl, a1, a2, a3, a4⟩
  · rcases h2 with ⟨rfl, b⟩ | ⟨q, rfl, b1, b2, b3, b4⟩
    · rfl
    · rw [a q b1 b2] at b3; cases b3
  · rcases h2 with ⟨rfl, b⟩ | ⟨q, rfl, b1, b2, b3, b4⟩
    · rw [b p a1 a2] at a3; cases a3
    · congr 1
      rcases Nat.lt_trichotomy p q with h | h | h
      · rw [b4 p a1 h] at a3; cases a3
      · exact h
      · rw [a4 q b1 h] at b3; cases b3
theorem pick_pos {n : Nat} {E : List (Int × Int)} {out : List Int} (h : pick n E out ≠ 0) : 1 ≤ pick n E out ∧ pick n E out ≤ n ∧ pick n E out ∉ out ∧ ∀ e ∈ E, e.1 = pick n E out → e.2 ∈ out := by
  rcases pick_is n E out with ⟨e, _⟩ | ⟨p, e, h1, h2, h3, _⟩
  · exact absurd e h
  · rw [e]
    rw [rdy_iff] at h3
    exact ⟨by omega, by omega, h3.1, h3.2⟩
/-- The order, as far as it goes in j picks. -/
def ordG (n : Nat) (E : List (Int × Int)) : Nat → List Int
  | 0 => []
  | j + 1 => if pick n E (ordG n E j) = 0 then ordG n E j else ordG n E j ++ [pick n E (ordG n E j)]
def ord (n : Nat) (E : List (Int × Int)) : List Int := ordG n E n
structure OrdOk (n : Nat) (E : List (Int × Int)) (out : List Int) : Prop where
  nodup : out.Nodup
  range : ∀ x ∈ out, 1 ≤ x ∧ x ≤ n
  closed : ∀ e ∈ E, e.1 ∈ out → e.2 ∈ out
theorem OrdOk.push {n : Nat} {E : List (Int × Int)} {out : List Int} (h : OrdOk n E out) (hp : pick n E out ≠ 0) : OrdOk n E (out ++ [pick n E out]) := by
  obtain ⟨h1, h2, h3, h4⟩ := pick_pos hp
  generalize pick n E out = p at *
  refine ⟨?_, fun x hx => ?_, fun e he hx => ?_⟩
  · rw [List.nodup_append]
    refine ⟨h.nodup, by simp, fun a ha b hb => ?_⟩
    simp at hb
    subst hb
    intro e; subst e; exact h3 ha
  · rw [List.mem_append] at hx
    rcases hx with hx | hx
    · exact h.range x hx
    · simp at hx; subst hx; exact ⟨h1, h2⟩
  · rw [List.mem_append] at hx ⊢
    rcases hx with hx | hx
    · exact .inl (h.closed e he hx)
    · simp at hx; exact .inl (h4 e he hx)
theorem ordG_ok (n : Nat) (E : List (Int × Int)) (j : Nat) : OrdOk n E (ordG n E j) := by
  induction j with
  | zero => exact ⟨List.nodup_nil, fun x hx => (by cases hx), fun e _ hx => (by cases hx)⟩
  | succ j ih =>
    rw [ordG]
    split
    · exact ih
    · exact ih.push ‹_›
theorem nodup_le (n : Nat) : ∀ (l : List Int), l.Nodup → (∀ x ∈ l, 1 ≤ x ∧ x ≤ (n : Int)) → l.length ≤ n := by
  induction n with
  | zero => intro l _ h; cases l with
    | nil => simp
    | cons a l => have := h a (List.mem_cons_self); omega
  | succ n ih =>
    intro l hn h
    by_cases hm : ((n + 1 : Nat) : Int) ∈ l
    · have h1 := ih (l.erase ((n + 1 : Nat) : Int)) (hn.erase _) (fun x hx => by
        have h2 := h x (List.mem_of_mem_erase hx)
        have h3 : x ≠ ((n + 1 : Nat) : Int) := fun e => by
          rw [hn.mem_erase_iff] at hx
          exact hx.1 e
        omega)
      rw [List.length_erase_of_mem hm] at h1
      omega
    · have := ih l hn (fun x hx => by
        have h2 := h x hx
        have h3 : x ≠ ((n + 1 : Nat) : Int) := fun e => hm (e ▸ hx)
        omega)
      omega
theorem OrdOk.len {n : Nat} {E : List (Int × Int)} {out : List Int} (h : OrdOk n E out) : out.length ≤ n := nodup_le n out h.nodup h.range
theorem ordG_stop {n : Nat} {E : List (Int × Int)} {j : Nat} (h : pick n E (ordG n E j) = 0) (i : Nat) : ordG n E (j + i) = ordG n E j := by
  induction i with
  | zero => rfl
  | succ i ih => rw [← Nat.add_assoc, ordG, ih, if_pos h]
theorem ordG_go {n : Nat} {E : List (Int × Int)} {j : Nat} (h : pick n E (ordG n E j) ≠ 0) : ordG n E (j + 1) = ordG n E j ++ [pick n E (ordG n E j)] := by rw [ordG, if_neg h]
/-- Where it stops it has all. -/
theorem ord_stop {n : Nat} {E : List (Int × Int)} {j : Nat} (hj : (ordG n E j).length = j) (h : pick n E (ordG n E j) = 0) : ord n E = ordG n E j := by
  have h1 := (ordG_ok n E j).len
  rw [hj] at h1
  have := ordG_stop h (n - j)
  rw [show j + (n - j) = n by omega] at this
  exact this
theorem ord_full {n : Nat} {E : List (Int × Int)} {j : Nat} (hj : (ordG n E j).length = j) (h : n ≤ j) : ord n E = ordG n E j := by
  have h1 := (ordG_ok n E j).len
  rw [show j = n by omega]; rfl
/-- What the order's loop holds: what is ready, and how many needs are open. -/
structure Inv (n : Nat) (out Q : List Int) (O : Int → Int) : Prop where
  nodup : Q.Nodup
  range : ∀ x ∈ Q, 1 ≤ x ∧ x ≤ (n : Int) ∧ x ∉ out
  zero : ∀ x, 1 ≤ x → x ≤ (n : Int) → x ∉ out → (x ∈ Q ↔ O x = 0)
theorem Inv.len {n : Nat} {out Q : List Int} {O : Int → Int} (h : Inv n out Q O) : Q.length ≤ n := nodup_le n Q h.nodup fun x hx => ⟨(h.range x hx).1, (h.range x hx).2.1⟩
theorem Inv.pick {n : Nat} {E : List (Int × Int)} {out Q : List Int} (h : Inv n out Q (cnt E out)) (h0 : 0 < Q.length) : pick n E out = mnTo Q (Q.length - 1) ∧ mnTo Q (Q.length - 1) ∈ Q := by
  obtain ⟨i, hi, e⟩ := mnTo_mem Q (Q.length - 1)
  have hm : mnTo Q (Q.length - 1) ∈ Q := by
    rw [e, List.getD_eq_getElem?_getD, List.getElem?_eq_getElem (show i < Q.length by omega)]
    exact List.getElem_mem _
  refine ⟨?_, hm⟩
  obtain ⟨h1, h2, h3⟩ := h.range _ hm
  have h4 := (h.zero _ h1 h2 h3).1 hm
  refine pick_uniq (pick_is n E out) (.inr ⟨(mnTo Q (Q.length - 1)).toNat, by omega, by omega, by omega, ?_, fun k hk1 hk2 => ?_⟩)
  · rw [show ((mnTo Q (Q.length - 1)).toNat : Int) = mnTo Q (Q.length - 1) by omega, rdy_cnt]
    exact ⟨h3, h4⟩
  · cases hr : rdy E out (k : Int) with
    | false => rfl
    | true =>
      rw [rdy_cnt] at hr
      have hk := (h.zero (k : Int) (by omega) (by omega) hr.1).2 hr.2
      obtain ⟨q, hq, e⟩ := List.getElem_of_mem hk
      have h5 := mnTo_le Q (Q.length - 1) q (by omega)
      rw [List.getD_eq_getElem?_getD, List.getElem?_eq_getElem hq, Option.getD_some, e] at h5
      omega
theorem Inv.none {n : Nat} {E : List (Int × Int)} {out Q : List Int} (h : Inv n out Q (cnt E out)) (h0 : Q.length = 0) : Gra.pick n E out = 0 := by
  refine pick_uniq (pick_is n E out) (.inl ⟨rfl, fun k hk1 hk2 => ?_⟩)
  cases hr : rdy E out (k : Int) with
  | false => rfl
  | true =>
    rw [rdy_cnt] at hr
    have hk := (h.zero (k : Int) (by omega) (by omega) hr.1).2 hr.2
    rw [List.length_eq_zero_iff.1 h0] at hk
    cases hk
/-- By whom a node is needed. -/
def usrP (E : List (Int × Int)) (x : Int) : List Int := (E.filter fun e => e.2 == x).map (·.1)
theorem cnt_push (E : List (Int × Int)) (out : List Int) (nd x : Int) (h : nd ∉ out) : cnt E out x = cnt E (out ++ [nd]) x + (((usrP E nd).count x : Nat) : Int) := by
  unfold cnt opn usrP
  induction E with
  | nil => rfl
  | cons e E ih =>
    simp only [List.filter_cons]
    by_cases h1 : e.1 = x
    · by_cases h2 : e.2 = nd
      · have a1 : (e.1 == x && !out.contains e.2) = true := by simp [h1, h2, h]
        have a2 : (e.1 == x && !(out ++ [nd]).contains e.2) = false := by simp [h2]
        have a3 : (e.2 == nd) = true := by simp [h2]
        rw [if_pos a1, if_neg (by rw [a2]; decide), if_pos a3]
        simp only [List.length_cons, List.map_cons, h1, List.count_cons_self]
        omega
      · have a3 : ¬ (e.2 == nd) = true := by simp [h2]
        rw [if_neg a3]
        have a4 : (e.1 == x && !(out ++ [nd]).contains e.2) = (e.1 == x && !out.contains e.2) := by simp [h2]
        rw [a4]
        split
        · simp only [List.length_cons]; omega
        · exact ih
    · have a1 : ¬ (e.1 == x && !out.contains e.2) = true := by simp [h1]
      have a2 : ¬ (e.1 == x && !(out ++ [nd]).contains e.2) = true := by simp [h1]
      rw [if_neg a1, if_neg a2]
      split
      · rw [List.map_cons, List.count_cons_of_ne h1]; exact ih
      · exact ih
theorem kp_mem (nd : Int) (l : List Int) (x : Int) : x ∈ kp nd l ↔ x ∈ l ∧ x ≠ nd := by
  unfold kp
  rw [List.mem_filter]
  simp
theorem kp_nodup (nd : Int) (l : List Int) (h : l.Nodup) : (kp nd l).Nodup := h.filter _
/-- The open needs while the users of a node are told. -/
def opO (E : List (Int × Int)) (out : List Int) (us : List Int) (i : Nat) (x : Int) : Int := cnt E out x + (((us.drop i).count x : Nat) : Int)
theorem inv_start {n : Nat} {E : List (Int × Int)} {out Q : List Int} {nd : Int} (h : Inv n out Q (cnt E out)) (hm : nd ∈ Q) :
    Inv n (out ++ [nd]) (kp nd Q) (opO E (out ++ [nd]) (usrP E nd) 0) ∧ ∀ x, opO E (out ++ [nd]) (usrP E nd) 0 x = cnt E out x := by
  have e : ∀ x, opO E (out ++ [nd]) (usrP E nd) 0 x = cnt E out x := fun x => (cnt_push E out nd x (h.range nd hm).2.2).symm
  refine ⟨⟨kp_nodup _ _ h.nodup, fun x hx => ?_, fun x h1 h2 h3 => ?_⟩, e⟩
  · rw [kp_mem] at hx
    obtain ⟨a, b, c⟩ := h.range x hx.1
    exact ⟨a, b, by simp [c, hx.2]⟩
  · rw [e, kp_mem]
    simp at h3
    rw [h.zero x h1 h2 h3.1]
    exact ⟨fun a => a.1, fun a => ⟨a, h3.2⟩⟩
theorem opO_step (E : List (Int × Int)) (out us : List Int) (i : Nat) (hi : i < us.length) (x : Int) :
    opO E out us (i + 1) x = if x = us.getD i 0 then opO E out us i x - 1 else opO E out us i x := by
  unfold opO
  rw [List.drop_eq_getElem_cons hi, List.getD_eq_getElem?_getD, List.getElem?_eq_getElem hi, Option.getD_some]
  by_cases e : x = us[i]
  · rw [if_pos e, e, List.count_cons_self]; omega
  · rw [if_neg e, List.count_cons_of_ne (fun a => e a.symm)]
theorem inv_step {n : Nat} {E : List (Int × Int)} {out us Q : List Int} {i : Nat} (hi : i < us.length) (h : Inv n out Q (opO E out us i)) (hu1 : 1 ≤ us.getD i 0) (hu2 : us.getD i 0 ≤ (n : Int)) (hu3 : us.getD i 0 ∉ out) :
    1 ≤ opO E out us i (us.getD i 0) ∧ Inv n out (if opO E out us i (us.getD i 0) - 1 = 0 then Q ++ [us.getD i 0] else Q) (opO E out us (i + 1)) := by
  have hge : 1 ≤ opO E out us i (us.getD i 0) := by
    unfold opO
    have h1 := cnt_nn E out (us.getD i 0)
    have h2 : 1 ≤ (us.drop i).count (us.getD i 0) := by
      rw [List.drop_eq_getElem_cons hi, List.getD_eq_getElem?_getD, List.getElem?_eq_getElem hi, Option.getD_some, List.count_cons_self]; omega
    omega
  refine ⟨hge, ?_⟩
  have hs := opO_step E out us i hi
  generalize us.getD i 0 = u at *
  have hnq : u ∉ Q := fun hq => by have := (h.zero u hu1 hu2 hu3).1 hq; omega
  by_cases h0 : opO E out us i u - 1 = 0
  · rw [if_pos h0]
    refine ⟨?_, fun x hx => ?_, fun x h1 h2 h3 => ?_⟩
    · rw [List.nodup_append]
      refine ⟨h.nodup, by simp, fun a ha b hb => ?_⟩
      simp at hb
      subst hb
      intro e; subst e; exact hnq ha
    · rw [List.mem_append] at hx
      rcases hx with hx | hx
      · exact h.range x hx
      · simp at hx; subst hx; exact ⟨hu1, hu2, hu3⟩
    · rw [hs x]
      by_cases e : x = u
      · rw [if_pos e, e]; simp [h0]
      · rw [if_neg e, List.mem_append]
        simp [e, h.zero x h1 h2 h3]
  · rw [if_neg h0]
    refine ⟨h.nodup, h.range, fun x h1 h2 h3 => ?_⟩
    rw [hs x]
    by_cases e : x = u
    · rw [if_pos e, e]; simp [h0, hnq]
    · rw [if_neg e]; exact h.zero x h1 h2 h3
theorem opO_end (E : List (Int × Int)) (out us : List Int) (x : Int) : opO E out us us.length x = cnt E out x := by unfold opO; simp
/-- Users lie behind. -/
theorem usr_out {n : Nat} {E : List (Int × Int)} {out : List Int} {nd u : Int} (h : OrdOk n E out) (h1 : nd ∉ out) (h2 : ∀ e ∈ E, e.1 = nd → e.2 ∈ out) (hu : u ∈ usrP E nd) : u ∉ out ++ [nd] := by
  unfold usrP at hu
  rw [List.mem_map] at hu
  obtain ⟨e, he, rfl⟩ := hu
  rw [List.mem_filter] at he
  have he2 : e.2 = nd := by simpa using he.2
  intro hc
  rw [List.mem_append] at hc
  rcases hc with hc | hc
  · have := h.closed e he.1 hc
    rw [he2] at this
    exact h1 this
  · simp at hc
    have := h2 e he.1 hc
    rw [he2] at this
    exact h1 this
theorem cnt_nil (E : List (Int × Int)) (x : Int) : cnt E [] x = (((E.filter fun e => e.1 == x).map (·.2)).length : Int) := by
  unfold cnt opn
  simp
/-- The nodes that nothing holds, from the first on. -/
def frees (O : Int → Int) : Nat → List Int
  | 0 => []
  | k + 1 => if O ((k + 1 : Nat) : Int) = 0 then frees O k ++ [((k + 1 : Nat) : Int)] else frees O k
theorem frees_mem (O : Int → Int) (k : Nat) (x : Int) : x ∈ frees O k ↔ 1 ≤ x ∧ x ≤ (k : Int) ∧ O x = 0 := by
  induction k with
  | zero => simp [frees]; omega
  | succ k ih =>
    rw [frees]
    split
    · rw [List.mem_append, ih, List.mem_singleton]
      constructor
      · rintro (h | rfl)
        · exact ⟨h.1, by omega, h.2.2⟩
        · exact ⟨by omega, by omega, ‹_›⟩
      · rintro ⟨a, b, c⟩
        by_cases e : x = ((k + 1 : Nat) : Int)
        · exact .inr e
        · exact .inl ⟨a, by omega, c⟩
    · rw [ih]
      constructor
      · rintro ⟨a, b, c⟩; exact ⟨a, by omega, c⟩
      · rintro ⟨a, b, c⟩
        refine ⟨a, ?_, c⟩
        by_cases e : x = ((k + 1 : Nat) : Int)
        · subst e; exact absurd c ‹_›
        · omega
theorem frees_nodup (O : Int → Int) (k : Nat) : (frees O k).Nodup := by
  induction k with
  | zero => simp [frees]
  | succ k ih =>
    rw [frees]
    split
    · rw [List.nodup_append]
      refine ⟨ih, by simp, fun a ha b hb => ?_⟩
      rw [frees_mem] at ha
      simp at hb
      omega
    · exact ih
theorem frees_len (O : Int → Int) (k : Nat) : (frees O k).length ≤ k := nodup_le k _ (frees_nodup O k) fun x hx => by rw [frees_mem] at hx; exact ⟨hx.1, hx.2.1⟩
theorem inv_first (n : Nat) (E : List (Int × Int)) : Inv n [] (frees (cnt E []) n) (cnt E []) :=
  ⟨frees_nodup _ _, fun x hx => by rw [frees_mem] at hx; exact ⟨hx.1, hx.2.1, by simp⟩, fun x h1 h2 _ => by rw [frees_mem]; exact ⟨fun a => a.2.2, fun a => ⟨h1, h2, a⟩⟩⟩
end Gra
end Go.Proofs.Ytjdkkldlghdojaa
