/- Texts put together: GraP, GraO, GraO2, GraR, GraR2, GraD, GraD2. -/
import Derived.Test.YtfincohdchnniaaBa
import Derived.BigQuiet
import Derived.Deep.DeepMust
import Derived.Deep.QuietTactic
import Derived.BigRegion
set_option linter.all false
namespace Go.Proofs.Ytfincohdchnniaa
namespace Gra
/-- The needs of a node that are not met yet. -/
def opn (E : List (Int × Int)) (out : List Int) (x : Int) : List (Int × Int) := E.filter fun e => e.1 == x && !(out.contains e.2)
def cnt (E : List (Int × Int)) (out : List Int) (x : Int) : Int := ((opn E out x).length : Int)
def rdy (E : List (Int × Int)) (out : List Int) (k : Int) : Bool := !(out.contains k) && E.all (fun e => e.1 != k || out.contains e.2)
theorem rdy_iff (E : List (Int × Int)) (out : List Int) (k : Int) : rdy E out k = true ↔ k ∉ out ∧ ∀ e ∈ E, e.1 = k → e.2 ∈ out := by
  unfold rdy
  rw [Bool.and_eq_true, List.all_eq_true]
  constructor
  · rintro ⟨h1, h2⟩
    refine ⟨by simpa using h1, fun e he hk => ?_⟩
    have := h2 e he
    rw [hk] at this
    simpa using this
  · rintro ⟨h1, h2⟩
    refine ⟨by simpa using h1, fun e he => ?_⟩
    by_cases hk : e.1 = k
    · have := h2 e he hk
      simp [this]
    · simp [hk]
theorem cnt_nn (E : List (Int × Int)) (out : List Int) (x : Int) : 0 ≤ cnt E out x := by unfold cnt; omega
theorem cnt_zero (E : List (Int × Int)) (out : List Int) (k : Int) : cnt E out k = 0 ↔ ∀ e ∈ E, e.1 = k → e.2 ∈ out := by
  unfold cnt opn
  rw [show (((E.filter fun e => e.1 == k && !(out.contains e.2)).length : Int) = 0) ↔ (E.filter fun e => e.1 == k && !(out.contains e.2)) = [] from ⟨fun h => List.length_eq_zero_iff.1 (by omega), fun h => by rw [h]; rfl⟩]
  rw [List.filter_eq_nil_iff]
  constructor
  · intro h e he hk
    have := h e he
    simpa [hk] using this
  · intro h e he
    by_cases hk : e.1 = k
    · have := h e he hk
      simp [this]
    · simp [hk]
theorem rdy_cnt (E : List (Int × Int)) (out : List Int) (k : Int) : rdy E out k = true ↔ k ∉ out ∧ cnt E out k = 0 := by rw [rdy_iff, cnt_zero]
/-- The least node that is ready; 0: there is none. -/
def pick (n : Nat) (E : List (Int × Int)) (out : List Int) : Int := (((List.range n).map fun i => ((i + 1 : Nat) : Int)).find? (rdy E out)).getD 0
def IsPick (lo n : Nat) (E : List (Int × Int)) (out : List Int) (v : Int) : Prop :=
  (v = 0 ∧ ∀ k : Nat, lo ≤ k → k ≤ n → rdy E out (k : Int) = false) ∨ ∃ p : Nat, v = (p : Int) ∧ lo ≤ p ∧ p ≤ n ∧ rdy E out (p : Int) = true ∧ ∀ k : Nat, lo ≤ k → k < p → rdy E out (k : Int) = false
theorem pick_is (n : Nat) (E : List (Int × Int)) (out : List Int) : IsPick 1 n E out (pick n E out) := by
  unfold pick
  cases h : ((List.range n).map fun i => ((i + 1 : Nat) : Int)).find? (rdy E out) with
  | none =>
    refine .inl ⟨rfl, fun k h1 h2 => ?_⟩
    rw [List.find?_eq_none] at h
    have := h (k : Int) (List.mem_map.2 ⟨k - 1, List.mem_range.2 (by omega), by congr 1; omega⟩)
    simpa using this
  | some v =>
    right
    rw [List.find?_map] at h
    cases h2 : (List.range n).find? (rdy E out ∘ fun i => ((i + 1 : Nat) : Int)) with
    | none => rw [h2] at h; cases h
    | some i =>
      rw [h2] at h
      simp only [Option.map_some, Option.some.injEq] at h
      rw [List.find?_range_eq_some] at h2
      refine ⟨i + 1, by rw [Option.getD_some]; exact h.symm, by omega, ?_, ?_, fun k h3 h4 => ?_⟩
      · have := List.mem_range.1 h2.2.1; omega
      · exact h2.1
      · have := h2.2.2 (k - 1) (by omega)
        simp only [Function.comp] at this
        rw [show k - 1 + 1 = k by omega] at this
        simpa using this
theorem pick_uniq {lo n : Nat} {E : List (Int × Int)} {out : List Int} {u v : Int} (h1 : IsPick lo n E out u) (h2 : IsPick lo n E out v) : u = v := by
  rcases h1 with ⟨rfl, a⟩ | ⟨p, rfl, a1, a2, a3, a4⟩
  · rcases h2 with ⟨rfl, b⟩ | ⟨q, rfl, b1, b2, b3, b4⟩
    · rfl
    · rw [a q b1 b2] at b3; cases b3
  · rcases h2 with ⟨rfl, b⟩ | ⟨q, rfl, b1, b2, b3, b4⟩
    · rw [b p a1 a2] at a3; cases a3
    · congr 1
      rcases Nat.lt_trichotomy p q with h | h | h
      · rw [b4 p a1 h] at a3; cases a3
      · exact h
      · rw [a4 q b1 h] at b3; cases b3
theorem pick_pos {n : Nat} {E : List (Int × Int)} {out : List Int} (h : pick n E out ≠ 0) : 1 ≤ pick n E out ∧ pick n E out ≤ n ∧ pick n E out ∉ out ∧ ∀ e ∈ E, e.1 = pick n E out → e.2 ∈ out := by
  rcases pick_is n E out with ⟨e, _⟩ | ⟨p, e, h1, h2, h3, _⟩
  · exact absurd e h
  · rw [e]
    rw [rdy_iff] at h3
    exact ⟨by omega, by omega, h3.1, h3.2⟩
/-- The order, as far as it goes in j picks. -/
def ordG (n : Nat) (E : List (Int × Int)) : Nat → List Int
  | 0 => []
  | j + 1 => if pick n E (ordG n E j) = 0 then ordG n E j else ordG n E j ++ [pick n E (ordG n E j)]
def ord (n : Nat) (E : List (Int × Int)) : List Int := ordG n E n
structure OrdOk (n : Nat) (E : List (Int × Int)) (out : List Int) : Prop where
  nodup : out.Nodup
  range : ∀ x ∈ out, 1 ≤ x ∧ x ≤ n
  closed : ∀ e ∈ E, e.1 ∈ out → e.2 ∈ out
theorem OrdOk.push {n : Nat} {E : List (Int × Int)} {out : List Int} (h : OrdOk n E out) (hp : pick n E out ≠ 0) : OrdOk n E (out ++ [pick n E out]) := by
  obtain ⟨h1, h2, h3, h4⟩ := pick_pos hp
  generalize pick n E out = p at *
  refine ⟨?_, fun x hx => ?_, fun e he hx => ?_⟩
  · rw [List.nodup_append]
    refine ⟨h.nodup, by simp, fun a ha b hb => ?_⟩
    simp at hb
    subst hb
    intro e; subst e; exact h3 ha
  · rw [List.mem_append] at hx
    rcases hx with hx | hx
    · exact h.range x hx
    · simp at hx; subst hx; exact ⟨h1, h2⟩
  · rw [List.mem_append] at hx ⊢
    rcases hx with hx | hx
    · exact .inl (h.closed e he hx)
    · simp at hx; exact .inl (h4 e he hx)
theorem ordG_ok (n : Nat) (E : List (Int × Int)) (j : Nat) : OrdOk n E (ordG n E j) := by
  induction j with
  | zero => exact ⟨List.nodup_nil, fun x hx => (by cases hx), fun e _ hx => (by cases hx)⟩
  | succ j ih =>
    rw [ordG]
    split
    · exact ih
    · exact ih.push ‹_›
theorem nodup_le (n : Nat) : ∀ (l : List Int), l.Nodup → (∀ x ∈ l, 1 ≤ x ∧ x ≤ (n : Int)) → l.length ≤ n := by
  induction n with
  | zero => intro l _ h; cases l with
    | nil => simp
    | cons a l => have := h a (List.mem_cons_self); omega
  | succ n ih =>
    intro l hn h
    by_cases hm : ((n + 1 : Nat) : Int) ∈ l
    · have h1 := ih (l.erase ((n + 1 : Nat) : Int)) (hn.erase _) (fun x hx => by
        have h2 := h x (List.mem_of_mem_erase hx)
        have h3 : x ≠ ((n + 1 : Nat) : Int) := fun e => by
          rw [hn.mem_erase_iff] at hx
          exact hx.1 e
        omega)
      rw [List.length_erase_of_mem hm] at h1
      omega
    · have := ih l hn (fun x hx => by
        have h2 := h x hx
        have h3 : x ≠ ((n + 1 : Nat) : Int) := fun e => hm (e ▸ hx)
        omega)
      omega
theorem OrdOk.len {n : Nat} {E : List (Int × Int)} {out : List Int} (h : OrdOk n E out) : out.length ≤ n := nodup_le n out h.nodup h.range
theorem ordG_stop {n : Nat} {E : List (Int × Int)} {j : Nat} (h : pick n E (ordG n E j) = 0) (i : Nat) : ordG n E (j + i) = ordG n E j := by
  induction i with
  | zero => rfl
  | succ i ih => rw [← Nat.add_assoc, ordG, ih, if_pos h]
theorem ordG_go {n : Nat} {E : List (Int × Int)} {j : Nat} (h : pick n E (ordG n E j) ≠ 0) : ordG n E (j + 1) = ordG n E j ++ [pick n E (ordG n E j)] := by rw [ordG, if_neg h]
/-- Where it stops it has all. -/
theorem ord_stop {n : Nat} {E : List (Int × Int)} {j : Nat} (hj : (ordG n E j).length = j) (h : pick n E (ordG n E j) = 0) : ord n E = ordG n E j := by
  have h1 := (ordG_ok n E j).len
  rw [hj] at h1
  have := ordG_stop h (n - j)
  rw [show j + (n - j) = n by omega] at this
  exact this
theorem ord_full {n : Nat} {E : List (Int × Int)} {j : Nat} (hj : (ordG n E j).length = j) (h : n ≤ j) : ord n E = ordG n E j := by
  have h1 := (ordG_ok n E j).len
  rw [show j = n by omega]; rfl
/-- What the order's loop holds: what is ready, and how many needs are open. -/
structure Inv (n : Nat) (out Q : List Int) (O : Int → Int) : Prop where
  nodup : Q.Nodup
  range : ∀ x ∈ Q, 1 ≤ x ∧ x ≤ (n : Int) ∧ x ∉ out
  zero : ∀ x, 1 ≤ x → x ≤ (n : Int) → x ∉ out → (x ∈ Q ↔ O x = 0)
theorem Inv.len {n : Nat} {out Q : List Int} {O : Int → Int} (h : Inv n out Q O) : Q.length ≤ n := nodup_le n Q h.nodup fun x hx => ⟨(h.range x hx).1, (h.range x hx).2.1⟩
theorem Inv.pick {n : Nat} {E : List (Int × Int)} {out Q : List Int} (h : Inv n out Q (cnt E out)) (h0 : 0 < Q.length) : pick n E out = mnTo Q (Q.length - 1) ∧ mnTo Q (Q.length - 1) ∈ Q := by
  obtain ⟨i, hi, e⟩ := mnTo_mem Q (Q.length - 1)
  have hm : mnTo Q (Q.length - 1) ∈ Q := by
    rw [e, List.getD_eq_getElem?_getD, List.getElem?_eq_getElem (show i < Q.length by omega)]
    exact List.getElem_mem _
  refine ⟨?_, hm⟩
  obtain ⟨h1, h2, h3⟩ := h.range _ hm
  have h4 := (h.zero _ h1 h2 h3).1 hm
  refine pick_uniq (pick_is n E out) (.inr ⟨(mnTo Q (Q.length - 1)).toNat, by omega, by omega, by omega, ?_, fun k hk1 hk2 => ?_⟩)
  · rw [show ((mnTo Q (Q.length - 1)).toNat : Int) = mnTo Q (Q.length - 1) by omega, rdy_cnt]
    exact ⟨h3, h4⟩
  · cases hr : rdy E out (k : Int) with
    | false => rfl
    | true =>
      rw [rdy_cnt] at hr
      have hk := (h.zero (k : Int) (by omega) (by omega) hr.1).2 hr.2
      obtain ⟨q, hq, e⟩ := List.getElem_of_mem hk
      have h5 := mnTo_le Q (Q.length - 1) q (by omega)
      rw [List.getD_eq_getElem?_getD, List.getElem?_eq_getElem hq, Option.getD_some, e] at h5
      omega
theorem Inv.none {n : Nat} {E : List (Int × Int)} {out Q : List Int} (h : Inv n out Q (cnt E out)) (h0 : Q.length = 0) : Gra.pick n E out = 0 := by
  refine pick_uniq (pick_is n E out) (.inl ⟨rfl, fun k hk1 hk2 => ?_⟩)
  cases hr : rdy E out (k : Int) with
  | false => rfl
  | true =>
    rw [rdy_cnt] at hr
    have hk := (h.zero (k : Int) (by omega) (by omega) hr.1).2 hr.2
    rw [List.length_eq_zero_iff.1 h0] at hk
    cases hk
/-- By whom a node is needed. -/
def usrP (E : List (Int × Int)) (x : Int) : List Int := (E.filter fun e => e.2 == x).map (·.1)
theorem cnt_push (E : List (Int × Int)) (out : List Int) (nd x : Int) (h : nd ∉ out) : cnt E out x = cnt E (out ++ [nd]) x + (((usrP E nd).count x : Nat) : Int) := by
  unfold cnt opn usrP
  induction E with
  | nil => rfl
  | cons e E ih =>
    simp only [List.filter_cons]
    by_cases h1 : e.1 = x
    · by_cases h2 : e.2 = nd
      · have a1 : (e.1 == x && !out.contains e.2) = true := by simp [h1, h2, h]
        have a2 : (e.1 == x && !(out ++ [nd]).contains e.2) = false := by simp [h2]
        have a3 : (e.2 == nd) = true := by simp [h2]
        rw [if_pos a1, if_neg (by rw [a2]; decide), if_pos a3]
        simp only [List.length_cons, List.map_cons, h1, List.count_cons_self]
        omega
      · have a3 : ¬ (e.2 == nd) = true := by simp [h2]
        rw [if_neg a3]
        have a4 : (e.1 == x && !(out ++ [nd]).contains e.2) = (e.1 == x && !out.contains e.2) := by simp [h2]
        rw [a4]
        split
        · simp only [List.length_cons]; omega
        · exact ih
    · have a1 : ¬ (e.1 == x && !out.contains e.2) = true := by simp [h1]
      have a2 : ¬ (e.1 == x && !(out ++ [nd]).contains e.2) = true := by simp [h1]
      rw [if_neg a1, if_neg a2]
      split
      · rw [List.map_cons, List.count_cons_of_ne h1]; exact ih
      · exact ih
theorem kp_mem (nd : Int) (l : List Int) (x : Int) : x ∈ kp nd l ↔ x ∈ l ∧ x ≠ nd := by
  unfold kp
  rw [List.mem_filter]
  simp
theorem kp_nodup (nd : Int) (l : List Int) (h : l.Nodup) : (kp nd l).Nodup := h.filter _
/-- The open needs while the users of a node are told. -/
def opO (E : List (Int × Int)) (out : List Int) (us : List Int) (i : Nat) (x : Int) : Int := cnt E out x + (((us.drop i).count x : Nat) : Int)
theorem inv_start {n : Nat} {E : List (Int × Int)} {out Q : List Int} {nd : Int} (h : Inv n out Q (cnt E out)) (hm : nd ∈ Q) :
    Inv n (out ++ [nd]) (kp nd Q) (opO E (out ++ [nd]) (usrP E nd) 0) ∧ ∀ x, opO E (out ++ [nd]) (usrP E nd) 0 x = cnt E out x := by
  have e : ∀ x, opO E (out ++ [nd]) (usrP E nd) 0 x = cnt E out x := fun x => (cnt_push E out nd x (h.range nd hm).2.2).symm
  refine ⟨⟨kp_nodup _ _ h.nodup, fun x hx => ?_, fun x h1 h2 h3 => ?_⟩, e⟩
  · rw [kp_mem] at hx
    obtain ⟨a, b, c⟩ := h.range x hx.1
    exact ⟨a, b, by simp [c, hx.2]⟩
  · rw [e, kp_mem]
    simp at h3
    rw [h.zero x h1 h2 h3.1]
    exact ⟨fun a => a.1, fun a => ⟨a, h3.2⟩⟩
theorem opO_step (E : List (Int × Int)) (out us : List Int) (i : Nat) (hi : i < us.length) (x : Int) :
    opO E out us (i + 1) x = if x = us.getD i 0 then opO E out us i x - 1 else opO E out us i x := by
  unfold opO
  rw [List.drop_eq_getElem_cons hi, List.getD_eq_getElem?_getD, List.getElem?_eq_getElem hi, Option.getD_some]
  by_cases e : x = us[i]
  · rw [if_pos e, e, List.count_cons_self]; omega
  · rw [if_neg e, List.count_cons_of_ne (fun a => e a.symm)]
theorem inv_step {n : Nat} {E : List (Int × Int)} {out us Q : List Int} {i : Nat} (hi : i < us.length) (h : Inv n out Q (opO E out us i)) (hu1 : 1 ≤ us.getD i 0) (hu2 : us.getD i 0 ≤ (n : Int)) (hu3 : us.getD i 0 ∉ out) :
    1 ≤ opO E out us i (us.getD i 0) ∧ Inv n out (if opO E out us i (us.getD i 0) - 1 = 0 then Q ++ [us.getD i 0] else Q) (opO E out us (i + 1)) := by
  have hge : 1 ≤ opO E out us i (us.getD i 0) := by
    unfold opO
    have h1 := cnt_nn E out (us.getD i 0)
    have h2 : 1 ≤ (us.drop i).count (us.getD i 0) := by
      rw [List.drop_eq_getElem_cons hi, List.getD_eq_getElem?_getD, List.getElem?_eq_getElem hi, Option.getD_some, List.count_cons_self]; omega
    omega
  refine ⟨hge, ?_⟩
  have hs := opO_step E out us i hi
  generalize us.getD i 0 = u at *
  have hnq : u ∉ Q := fun hq => by have := (h.zero u hu1 hu2 hu3).1 hq; omega
  by_cases h0 : opO E out us i u - 1 = 0
  · rw [if_pos h0]
    refine ⟨?_, fun x hx => ?_, fun x h1 h2 h3 => ?_⟩
    · rw [List.nodup_append]
      refine ⟨h.nodup, by simp, fun a ha b hb => ?_⟩
      simp at hb
      subst hb
      intro e; subst e; exact hnq ha
    · rw [List.mem_append] at hx
      rcases hx with hx | hx
      · exact h.range x hx
      · simp at hx; subst hx; exact ⟨hu1, hu2, hu3⟩
    · rw [hs x]
      by_cases e : x = u
      · rw [if_pos e, e]; simp [h0]
      · rw [if_neg e, List.mem_append]
        simp [e, h.zero x h1 h2 h3]
  · rw [if_neg h0]
    refine ⟨h.nodup, h.range, fun x h1 h2 h3 => ?_⟩
    rw [hs x]
    by_cases e : x = u
    · rw [if_pos e, e]; simp [h0, hnq]
    · rw [if_neg e]; exact h.zero x h1 h2 h3
theorem opO_end (E : List (Int × Int)) (out us : List Int) (x : Int) : opO E out us us.length x = cnt E out x := by unfold opO; simp
/-- Users lie behind. -/
theorem usr_out {n : Nat} {E : List (Int × Int)} {out : List Int} {nd u : Int} (h : OrdOk n E out) (h1 : nd ∉ out) (h2 : ∀ e ∈ E, e.1 = nd → e.2 ∈ out) (hu : u ∈ usrP E nd) : u ∉ out ++ [nd] := by
  unfold usrP at hu
  rw [List.mem_map] at hu
  obtain ⟨e, he, rfl⟩ := hu
  rw [List.mem_filter] at he
  have he2 : e.2 = nd := by simpa using he.2
  intro hc
  rw [List.mem_append] at hc
  rcases hc with hc | hc
  · have := h.closed e he.1 hc
    rw [he2] at this
    exact h1 this
  · simp at hc
    have := h2 e he.1 hc
    rw [he2] at this
    exact h1 this
theorem cnt_nil (E : List (Int × Int)) (x : Int) : cnt E [] x = (((E.filter fun e => e.1 == x).map (·.2)).length : Int) := by
  unfold cnt opn
  simp
/-- The nodes that nothing holds, from the first on. -/
def frees (O : Int → Int) : Nat → List Int
  | 0 => []
  | k + 1 => if O ((k + 1 : Nat) : Int) = 0 then frees O k ++ [((k + 1 : Nat) : Int)] else frees O k
theorem frees_mem (O : Int → Int) (k : Nat) (x : Int) : x ∈ frees O k ↔ 1 ≤ x ∧ x ≤ (k : Int) ∧ O x = 0 := by
  induction k with
  | zero => simp [frees]; omega
  | succ k ih =>
    rw [frees]
    split
    · rw [List.mem_append, ih, List.mem_singleton]
      constructor
      · rintro (h | rfl)
        · exact ⟨h.1, by omega, h.2.2⟩
        · exact ⟨by omega, by omega, ‹_›⟩
      · rintro ⟨a, b, c⟩
        by_cases e : x = ((k + 1 : Nat) : Int)
        · exact .inr e
        · exact .inl ⟨a, by omega, c⟩
    · rw [ih]
      constructor
      · rintro ⟨a, b, c⟩; exact ⟨a, by omega, c⟩
      · rintro ⟨a, b, c⟩
        refine ⟨a, ?_, c⟩
        by_cases e : x = ((k + 1 : Nat) : Int)
        · subst e; exact absurd c ‹_›
        · omega
theorem frees_nodup (O : Int → Int) (k : Nat) : (frees O k).Nodup := by
  induction k with
  | zero => simp [frees]
  | succ k ih =>
    rw [frees]
    split
    · rw [List.nodup_append]
      refine ⟨ih, by simp, fun a ha b hb => ?_⟩
      rw [frees_mem] at ha
      simp at hb
      omega
    · exact ih
theorem frees_len (O : Int → Int) (k : Nat) : (frees O k).length ≤ k := nodup_le k _ (frees_nodup O k) fun x hx => by rw [frees_mem] at hx; exact ⟨hx.1, hx.2.1⟩
theorem inv_first (n : Nat) (E : List (Int × Int)) : Inv n [] (frees (cnt E []) n) (cnt E []) :=
  ⟨frees_nodup _ _, fun x hx => by rw [frees_mem] at hx; exact ⟨hx.1, hx.2.1, by simp⟩, fun x h1 h2 _ => by rw [frees_mem]; exact ⟨fun a => a.2.2, fun a => ⟨h1, h2, a⟩⟩⟩
end Gra
end Go.Proofs.Ytfincohdchnniaa
namespace Go.Proofs.Ytfincohdchnniaa
open Go.RowKit
namespace Gra
open In (Ints IsInts)
/-- A web's cells, the open needs told anew. -/
def CO (C : Nat → Value) (O : Int → Int) (j : Nat) : Value := if 66 ≤ j ∧ j ≤ 130 then .int .i64 (O ((j : Int) - 66)) else C j
structure OrdW (W : World) (g : Nat) (C : Nat → Value) (O : Int → Int) (wr : World) : Prop where
  row : wr.rowIs g 97 196 (CO C O)
  grow : W.grownBy wr (some g)
namespace OrdW
variable {W wr : World} {g : Nat} {C : Nat → Value} {O : Int → Int}
theorem lt (h : OrdW W g C O wr) : g < wr.heap.size := h.row.lt
theorem grown (h : OrdW W g C O wr) (hg : g < W.heap.size) {b : World} {row : Option Nat} (hb : wr.grownBy b row) (hr : ∀ k, row = some k → W.heap.size ≤ k) : OrdW W g C O b := by
  refine ⟨h.row.of_block (hb.block g h.lt (fun e => by have := hr g e.symm; omega)), ?_⟩
  exact ⟨hb.os.trans h.grow.os, hb.tape.trans h.grow.tape, hb.output.trans h.grow.output, Nat.le_trans h.grow.size hb.size, fun k hk hne => (hb.block k (Nat.lt_of_lt_of_le hk h.grow.size) (fun e => by have := hr k e.symm; omega)).trans (h.grow.block k hk hne)⟩
theorem alloc (h : OrdW W g C O wr) (o : Obj) : OrdW W g C O (wr.alloc o) :=
  ⟨h.row.alloc o, ⟨h.grow.os, h.grow.tape, h.grow.output, Nat.le_trans h.grow.size (by simp), fun k hk hne => (Below.heap_alloc _ _ _ (Nat.lt_of_lt_of_le hk h.grow.size)).trans (h.grow.block k hk hne)⟩⟩
theorem drew (h : OrdW W g C O wr) : OrdW W g C O wr.drew := ⟨h.row.drew, ⟨h.grow.os, h.grow.tape, h.grow.output, h.grow.size, h.grow.block⟩⟩
theorem drewN (h : OrdW W g C O wr) (q : Nat) : OrdW W g C O (wr.drewN q) := ⟨h.row, ⟨h.grow.os, h.grow.tape, h.grow.output, h.grow.size, h.grow.block⟩⟩
theorem setO (h : OrdW W g C O wr) (x : Nat) (hx : x ≤ 64) (v : Int) : OrdW W g C (fun y => if y = (x : Int) then v else O y) (wr.setCell ⟨g, 66 + x, none⟩ (.int .i64 v)) := by
  refine ⟨(h.row.set _ _).congr fun i hi => ?_, grw_trans h.grow (grw_set _ _ _ _)⟩
  unfold CO
  by_cases e : i = 66 + x
  · rw [if_pos e, if_pos (by omega)]
    show _ = Value.int .i64 (if _ then _ else _)
    rw [if_pos (by omega)]
  · rw [if_neg e]
    by_cases e2 : 66 ≤ i ∧ i ≤ 130
    · rw [if_pos e2, if_pos e2]
      show _ = Value.int .i64 (if _ then _ else _)
      rw [if_neg (by omega)]
    · rw [if_neg e2, if_neg e2]
theorem congr (h : OrdW W g C O wr) {O' : Int → Int} (e : ∀ x, O' x = O x) : OrdW W g C O' wr := by
  rw [show O' = O from funext e]; exact h
end OrdW
theorem Web.start {W : World} {B g : Nat} {n : Int} {R : Nat → List Int} {OW : Nat → Int} {C : Nat → Value} (h : Web W B g n R OW C) {O : Int → Int} (e : ∀ x : Nat, x ≤ 64 → OW x = O (x : Int)) : OrdW W g C O W := by
  refine ⟨h.row.congr fun i hi => ?_, grw_refl _ _⟩
  unfold CO
  split
  · rw [show (i : Int) - 66 = ((i - 66 : Nat) : Int) by omega, ← e (i - 66) (by omega), ← h.cO (i - 66) (by omega)]
    congr 1; omega
  · rfl
theorem Web.back {W wr : World} {B g : Nat} {n : Int} {R : Nat → List Int} {OW : Nat → Int} {C : Nat → Value} (h : Web W B g n R OW C) {O : Int → Int} (ho : OrdW W g C O wr) : Web wr B g n R (fun x => O (x : Int)) (CO C O) := by
  have hC : ∀ i, isRow i → CO C O i = C i := fun i hi => by unfold isRow at hi; unfold CO; rw [if_neg (by omega)]
  refine ⟨ho.row, h.lo, ?_, fun x hx => ?_, fun i hi => ?_, fun i hi => ?_, fun i j hi hj hij => ?_⟩
  · unfold CO; rw [if_neg (by omega)]; exact h.c0
  · unfold CO; rw [if_pos (by omega)]; congr 2; omega
  · rw [hC i hi]
    have h1 := h.own i hi
    refine ⟨h1.1, ?_⟩
    rcases h1.2 with h0 | ⟨g', cap, cur, hv, hb, hg, r⟩
    · exact .inl h0
    · refine .inr ⟨g', cap, cur, hv, hb, ?_, r⟩
      exact (ho.grow.block g' (Array.getElem?_eq_some_iff.1 hg).1 (fun e => h.ne i hi (by rw [hv]; exact e))).trans hg
  · rw [hC i hi]; exact h.ne i hi
  · rw [hC i hi, hC j hj]; exact h.ap i j hi hj hij
theorem RF_nds (E : List (Int × Int)) (x : Nat) (h : x ≤ 64) : RF E (1 + x) = ndsF E (x : Int) := by
  unfold RF; rw [if_pos (by omega), show ((1 + x : Nat) : Int) - 1 = (x : Int) by omega]
theorem RF_usr (E : List (Int × Int)) (x : Nat) : RF E (131 + x) = usrP E (x : Int) := by
  unfold RF; rw [if_neg (by omega), show ((131 + x : Nat) : Int) - 131 = (x : Int) by omega]; rfl
/-- The cells of a web that an order has begun on. -/
structure OrdC (W : World) (g : Nat) (n : Int) (E : List (Int × Int)) (C : Nat → Value) : Prop where
  lt : g < W.heap.size
  c0 : C 0 = .int .i64 n
  own : ∀ i, isRow i → W.ownsRow 0 3 1 (C i) (RF E i).length ((RF E i).map (Value.int .i64))
  ne : ∀ i, isRow i → (C i).ownBlock ≠ some g
theorem Web.ordC {W : World} {B g : Nat} {n : Int} {E : List (Int × Int)} {OW : Nat → Int} {C : Nat → Value} (h : Web W B g n (RF E) OW C) : OrdC W g n E C := by
  refine ⟨h.row.lt, h.c0, fun i hi => ?_, h.ne⟩
  have h1 := h.own i hi
  refine ⟨h1.1, ?_⟩
  rcases h1.2 with h0 | ⟨g', cap, cur, hv, hb, r⟩
  · exact .inl h0
  · exact .inr ⟨g', cap, cur, hv, Nat.zero_le _, r⟩
namespace OrdC
variable {W wr : World} {g : Nat} {n : Int} {E : List (Int × Int)} {C : Nat → Value} {O : Int → Int}
theorem cell0 (h : OrdC W g n E C) (ho : OrdW W g C O wr) : wr.cell? ⟨g, 0, none⟩ = some (.int .i64 n) := by
  rw [ho.row.cell (by decide), show CO C O 0 = C 0 from rfl, h.c0]
theorem cellO (_h : OrdC W g n E C) (ho : OrdW W g C O wr) (x : Nat) (hx : x ≤ 64) : wr.cell? ⟨g, 66 + x, none⟩ = some (.int .i64 (O (x : Int))) := by
  rw [ho.row.cell (by omega)]; unfold CO; rw [if_pos (by omega)]; congr 3; omega
theorem cellR (_h : OrdC W g n E C) (ho : OrdW W g C O wr) {i : Nat} (hi : isRow i) : wr.cell? ⟨g, i, none⟩ = some (C i) := by
  unfold isRow at hi
  rw [ho.row.cell (by omega)]; unfold CO; rw [if_neg (by omega)]
theorem ints (h : OrdC W g n E C) (ho : OrdW W g C O wr) {i : Nat} (hi : isRow i) : ∃ a cap, C i = .slice a (RF E i).length cap ∧ Ints .i64 wr a (RF E i) ∧ ∀ b off, a = some ⟨b, off, none⟩ → b < W.heap.size := by
  rcases (h.own i hi).2 with ⟨e, h0⟩ | ⟨g', cap, cur, hv, hb, hg, r1, r2, r3, r4⟩
  · exact ⟨none, 0, by rw [e, h0], fun j hj => by omega, fun b off e => by cases e⟩
  · have hlt := (Array.getElem?_eq_some_iff.1 hg).1
    refine ⟨some ⟨g', 0, none⟩, cap, hv, ?_, fun b off e => by cases e; exact hlt⟩
    have hown := h.own i hi
    rw [hv] at hown
    have hr : RowAt wr g' ((RF E i).map (Value.int .i64)) := (RowAt.of_own hown).of_block (ho.grow.block g' hlt (fun e => h.ne i hi (by rw [hv]; exact e)))
    exact hr.ints .i64 _ rfl
theorem ints2 (h : OrdC W g n E C) (ho : OrdW W g C O wr) {i : Nat} (hi : isRow i) {a : Option Addr} {m cap : Nat} (hc : C i = .slice a m cap) : Ints .i64 wr a (RF E i) := by
  obtain ⟨a', cap', e, h1, _⟩ := h.ints ho hi
  rw [hc] at e
  cases e
  exact h1
end OrdC
/-- What order answers. -/
def OrderOut (W : World) (g n : Nat) (E : List (Int × Int)) (C : Nat → Value) (e : Ending) (w' : World) : Prop :=
  ∃ v O, e = .returned v ∧ w'.ownsRow W.heap.size 3 1 v (ord n E).length ((ord n E).map (Value.int .i64)) ∧ OrdW W g C O w'
theorem own_slice {w : World} {base : Nat} {e : TypeId} {v : Value} {n : Nat} {xs : List Value} (h : w.ownsRow base e 1 v n xs) : ∃ a cap, v = .slice a n cap := by
  rcases h.2 with ⟨e, h0⟩ | ⟨g', cap, cur, hv, _⟩
  · exact ⟨none, 0, by rw [e, h0]⟩
  · exact ⟨_, cap, hv⟩
theorem own_keep {w w' : World} {base : Nat} {e : TypeId} {v : Value} {n : Nat} {xs : List Value} (h : w.ownsRow base e 1 v n xs) (k : ∀ g, v.ownBlock = some g → w'.heap[g]? = w.heap[g]?) : w'.ownsRow base e 1 v n xs := by
  refine ⟨h.1, ?_⟩
  rcases h.2 with h0 | ⟨g, cap, cur, rfl, h1, hg, h2⟩
  · exact .inl h0
  · exact .inr ⟨g, cap, cur, rfl, h1, (k g rfl).trans hg, h2⟩
theorem cell_new2 (w : World) (a : Addr) (u x : Value) (t : TypeId) : ((w.setCell a u).alloc (.cells #[x] t)).cell? ⟨w.heap.size, 0, none⟩ = some x := by
  have := Own.cell_new (w.setCell a u) x t
  rwa [show (w.setCell a u).heap.size = w.heap.size by simp [World.setCell]] at this
theorem apart_len {g n m cap cap' : Nat} {u : Value} (h : Own.Apart (.slice (some ⟨g, 0, none⟩) n cap) u) : Own.Apart (.slice (some ⟨g, 0, none⟩) m cap') u := h
theorem inv_congr {n : Nat} {out Q : List Int} {O O' : Int → Int} (h : Inv n out Q O) (e : ∀ x, O' x = O x) : Inv n out Q O' := by
  rw [show O' = O from funext e]; exact h
theorem usrP_mem {E : List (Int × Int)} {x : Int} {i : Nat} (hi : i < (usrP E x).length) : (usrP E x).getD i 0 ∈ usrP E x := by
  rw [List.getD_eq_getElem?_getD, List.getElem?_eq_getElem hi]; exact List.getElem_mem _
theorem usrP_in {E : List (Int × Int)} {x u : Int} (h : u ∈ usrP E x) : ∃ e ∈ E, e.1 = u := by
  unfold usrP at h
  rw [List.mem_map] at h
  obtain ⟨e, he, rfl⟩ := h
  exact ⟨e, (List.mem_filter.1 he).1, rfl⟩
end Gra
end Go.Proofs.Ytfincohdchnniaa
namespace Go.Proofs.Ytfincohdchnniaa
open Go.RowKit
namespace Gra
open In (Ints IsInts)
set_option maxRecDepth 100000 in
set_option maxHeartbeats 8000000 in
theorem order_any (g n : Nat) (E : List (Int × Int)) (C : Nat → Value) (W : World) (hn : n ≤ 64) (hE : E.length ≤ 256) (hr : ∀ e ∈ E, (1 ≤ e.1 ∧ e.1 ≤ (n : Int)) ∧ (1 ≤ e.2 ∧ e.2 ≤ (n : Int))) (hC : OrdC W g (n : Int) E C) (hW : OrdW W g C (cnt E []) W) :
    Calls Try.prog 78 #[.pointer (some ⟨g, 0, none⟩)] W (OrderOut W g n E C) := by
  have HC := Lib.hid hC
  have HR := Lib.hid hr
  have HW0 := Lib.hid hW
  have HN : Hid (n ≤ 64 ∧ E.length ≤ 256) := ⟨hn, hE⟩
  obtain ⟨i0, hi, hz0, hz1, hz2⟩ := info_parts info3
  have hgS := hC.lt
  clear hC hr hW
  go_enter Try.func78, Try.ntmps78
  go_wp2
  go_loopw [3, 5] (fun v3 v5 wr => ∃ k : Nat, k ≤ n ∧ v5 = .int .i64 ((k + 1 : Nat) : Int) ∧ Hid (wr.ownsRow W.heap.size 3 1 v3 (frees (cnt E []) k).length ((frees (cnt E []) k).map (Value.int .i64))) ∧ Hid (OrdW W g C (cnt E []) wr)) (fun _ v5 _ => n + 1 - (intOf v5).toNat)
  case atStart => exact ⟨0, by omega, rfl, World.ownsRow_nil _ _ _ _, HW0⟩
  case round =>
    obtain ⟨k, hk, rfl, HO, HWr⟩ := hrel
    have c0 := HC.out.cell0 HWr.out
    have hsz := HWr.out.grow.size
    by_cases hlt : k + 1 ≤ n
    · have hlt1 : ((k + 1 : Nat) : Int) ≤ (n : Int) := by omega
      have cO := HC.out.cellO HWr.out (k + 1) (by omega)
      have HF : Hid (frees (cnt E []) (k + 1) = if cnt E [] ((k + 1 : Nat) : Int) = 0 then frees (cnt E []) k ++ [((k + 1 : Nat) : Int)] else frees (cnt E []) k) := rfl
      have HFL : Hid ((frees (cnt E []) k).length ≤ 64) := Nat.le_trans (frees_len _ _) (by omega)
      obtain ⟨T, hT⟩ : ∃ T, Hid (cnt E [] ((k + 1 : Nat) : Int) = T) := ⟨_, rfl⟩
      obtain ⟨K, hK⟩ : ∃ K : Nat, Hid (k + 1 = K) := ⟨_, rfl⟩
      have b0 : (0 : Int) ≤ (K : Int) := by omega
      have b1 : (K : Int) < 65 := by have := hK.out; omega
      rw [hT.out, hK.out] at HF
      rw [hT.out, hK.out] at cO
      rw [hK.out] at hlt1 hlt ⊢
      by_cases h0 : T = 0
      · have d0 : (T == 0) = true := by simp [h0]
        rw [if_pos h0] at HF
        clear h0
        go_wp2_with (at_builtin; refine Own.list_one rfl (.tmp 24) (.tmp 26) 57 rfl W.heap.size 3 i0 _ 8 Try.underlying57 hi hz0 hz1 hz2 rfl _ _ _ rfl _ _ _ rfl (HO.out.alloc _) (Own.cell_new _ _ _) rfl ?h1 ?h2 ?h3 ?_; (case h1 => have := HFL.out; unfold maxLen; omega); (case h2 => have := HFL.out; omega); (case h3 => simp; omega); intro v3' w2 hown2 hgrow2; have HW2 := Lib.hid ((HWr.out.alloc _).grown hgS hgrow2 (Own.own_block HO.out (Nat.le_refl _))); have HO2 := Lib.hid hown2; clear hown2 hgrow2)
        go_roundw
        case rel => exact ⟨K, hlt, by go_num, by rw [HF.out, List.map_append, List.length_append]; exact HO2.out, HW2⟩
        case measure => simp [intOf]; omega
      · have d0 : (T == 0) = false := beq_eq_false_iff_ne.2 h0
        rw [if_neg h0] at HF
        clear h0
        go_wp2
        go_roundw
        case rel => exact ⟨K, hlt, by go_num, by rw [HF.out]; exact HO, HWr⟩
        case measure => simp [intOf]; omega
    · have hke : n = k := by omega
      subst hke
      have hge : ¬ ((n + 1 : Nat) : Int) ≤ (n : Int) := by omega
      have HI : Hid ((ordG n E 0).length = 0 ∧ Inv n (ordG n E 0) (frees (cnt E []) n) (cnt E (ordG n E 0))) := ⟨rfl, inv_first n E⟩
      clear hlt
      go_wp2
      generalize frees (cnt E []) n = Q0 at *
      clear c0 hsz
      go_loopg [3, 4] n (fun gk v3 v4 wr => ∃ (j : Nat) (Q : List Int), gk + j = n ∧ Hid ((ordG n E j).length = j ∧ Inv n (ordG n E j) Q (cnt E (ordG n E j))) ∧ Hid (wr.ownsRow W.heap.size 3 1 v3 Q.length (Q.map (Value.int .i64))) ∧ Hid (wr.ownsRow W.heap.size 3 1 v4 (ordG n E j).length ((ordG n E j).map (Value.int .i64))) ∧ Hid (Own.Apart v3 v4) ∧ Hid (OrdW W g C (cnt E (ordG n E j)) wr))
      case atStart => exact ⟨0, Q0, by omega, HI, HO, World.ownsRow_nil _ _ _ _, Own.Apart.symm (.inl rfl), HWr⟩
      case round =>
        obtain ⟨G0, rfl⟩ : ∃ G0 : Nat, G0 = gk := ⟨_, rfl⟩
        obtain ⟨j, Q, hj, HJ, HO3, HO4, HAp, HWo⟩ := hrel
        by_cases hq : 0 < Q.length
        · obtain ⟨g3, cap3, e3, hg3, hl3⟩ := HO3.out.form hq
          rw [e3] at HO3 HAp ⊢
          clear e3
          have hpk := HJ.out.2.pick hq
          have hrg := HJ.out.2.range _ hpk.2
          have hql := HJ.out.2.len
          have HGO : Hid (pick n E (ordG n E j) ≠ 0) := by show _ ≠ _; rw [hpk.1]; omega
          have HPP := Lib.hid (pick_pos HGO.out)
          have HST := Lib.hid (inv_start HJ.out.2 hpk.2)
          have HOG := Lib.hid (ordG_go HGO.out)
          have HOK := Lib.hid (ordG_ok n E j)
          rw [hpk.1] at HOG HPP
          have hqi : (0 : Int) < (Q.length : Int) := by omega
          have HM : Hid (mnTo Q (Q.length - 1) ∈ Q) := hpk.2
          have hpl := hpk.1
          obtain ⟨X, hX⟩ : ∃ X : Nat, Hid (mnTo Q (Q.length - 1) = (X : Int)) := ⟨(mnTo Q (Q.length - 1)).toNat, by show _ = _; omega⟩
          have CM : Hid (∀ (w : World), Ints .i64 w (some ⟨g3, 0, none⟩) Q → _) := fun w hw => min_any (some ⟨g3, 0, none⟩) cap3 Q hq (by omega) w hw
          rw [hX.out] at HST HOG HPP HM hrg
          have CM2 : Hid (∀ (w : World), Ints .i64 w (some ⟨g3, 0, none⟩) Q → Calls Try.prog 84 #[.slice (some ⟨g3, 0, none⟩) Q.length cap3] w fun e w' => e = .returned (.int .i64 (X : Int)) ∧ w = w') := fun w hw => by have := CM.out w hw; rwa [hX.out] at this
          have hx1 : (0 : Int) ≤ (X : Int) := by omega
          have hx2 : (X : Int) < 65 := by omega
          have hx3 : X ≤ 64 := by omega
          have hx4 : 1 ≤ X := by omega
          have HQL : Hid (Q.length ≤ 64 ∧ j ≤ 64 ∧ (ordG n E j).length = j) := ⟨by omega, by omega, HJ.out.1⟩
          have h3ne : wr.heap.size ≠ g3 := by omega
          have CD : Hid (∀ (w : World), w.ownsRow W.heap.size 3 1 (.slice (some ⟨g3, 0, none⟩) Q.length cap3) Q.length (Q.map (Value.int .i64)) → w.cell? ⟨wr.heap.size, 0, none⟩ = some (.int .i64 (X : Int)) → _) := fun w h1 h2 => delete_any W.heap.size g3 cap3 Q (by omega) (X : Int) wr.heap.size w h1 h2 h3ne HM.out
          clear CM hpk hrg hpl hql hq
          have hr2 : isRow (131 + X) := by unfold isRow; omega
          obtain ⟨ua, uc, hCu, _, hub⟩ := HC.out.ints HWo.out hr2
          have HUL : Hid ((RF E (131 + X)).length ≤ 256) := Nat.le_trans (RF_len _ _) HN.out.2
          have HUS : Hid (∀ i, i < (RF E (131 + X)).length → ((1 ≤ (RF E (131 + X)).getD i 0 ∧ (RF E (131 + X)).getD i 0 ≤ (n : Int)) ∧ (RF E (131 + X)).getD i 0 ∉ ordG n E j ++ [(X : Int)])) := by
            intro i hi
            rw [RF_usr] at hi ⊢
            have hm := usrP_mem hi
            obtain ⟨e, he, e1⟩ := usrP_in hm
            refine ⟨by have := (HR.out e he).1; rw [e1] at this; exact this, usr_out HOK.out HPP.out.2.2.1 HPP.out.2.2.2 hm⟩
          rw [← RF_usr] at HST
          have HIU : Hid (∀ wx O, OrdW W g C O wx → Ints .i64 wx ua (RF E (131 + X))) := fun wx O ho => HC.out.ints2 ho hr2 hCu
          have HCR : Hid (∀ wx O, OrdW W g C O wx → wx.cell? ⟨g, 131 + X, none⟩ = some (.slice ua (RF E (131 + X)).length uc)) := fun wx O ho => by rw [← hCu]; exact HC.out.cellR ho hr2
          replace hCu := Lib.hid hCu
          replace hub := Lib.hid hub
          have HOL : Hid ((ordG n E j ++ [(X : Int)]).length = (ordG n E j).length + 1) := by show _ = _; rw [List.length_append]; rfl
          generalize RF E (131 + X) = us at *
          clear HOK HPP HM
          go_wp2_with (first
            | (go_at_call 84; ((with_reducible refine (CM2.out _ ?_).mono ?_); (exact (RowAt.of_own HO3.out).ints .i64 _ rfl); rintro e w1 ⟨rfl, rfl⟩))
            | (go_at_call 85; ((with_reducible refine (CD.out _ ?_ ?_).mono ?_); (exact Own.own_below HO3.out ((Below.refl _ _).alloc (Nat.le_refl _) _)); (exact Own.cell_new _ _ _); rintro e w1 ⟨rfl, HD⟩; have hcn := HD.out.2.cell (Own.cell_new _ _ _) (fun e => h3ne (by cases e; rfl)); have HW1 := Lib.hid ((HWo.out.alloc _).grown hgS HD.out.2 (fun k e => by cases e; exact hg3)); have HO41 := Lib.hid (Own.Apart.kept HAp.out.symm (HO4.out.alloc _) HD.out.2); have HO31 := Lib.hid HD.out.1; have hsz1 := HD.out.2.size; clear HD))
            | (at_builtin; refine Own.lies_one rfl (.tmp 36) (.tmp 38) 57 rfl W.heap.size 3 i0 _ 8 Try.underlying57 hi hz0 hz1 hz2 rfl _ _ _ rfl _ _ _ rfl (HO41.out.alloc _) (Own.cell_new _ _ _) rfl ?h1 ?h2 ?h3 (w1.heap.size + 1) (by simp) ?_; (case h1 => have := HQL.out; unfold maxLen; omega); (case h2 => have := HQL.out; omega); (case h3 => have := HW1.out.grow.size; simp; omega); intro g4 cap4 w2 hown4 hgrow4 hat4 hlt4; have hcn2 := hgrow4.cell ((World.cell?_alloc_lt _ _ _ (block_lt_of_cell hcn)).trans hcn) (fun e => by have := (HO4.out.lt _ e.symm).2; simp at this); have HW2 := Lib.hid ((HW1.out.alloc _).grown hgS hgrow4 (Own.own_block HO41.out (Nat.le_refl _))); have HO32 := Lib.hid (Own.Apart.kept (apart_len (m := (kp (X : Int) Q).length) (cap' := cap3) HAp.out) (HO31.out.alloc _) hgrow4); have HAp2 := Lib.hid (Own.Apart.right (v := .slice (some ⟨g3, 0, none⟩) (kp (X : Int) Q).length cap3) (n := (ordG n E j).length + 1) (cap := cap4) (apart_len HAp.out) hat4 (fun k e => Nat.lt_succ_of_lt (HO31.out.lt _ e).2)); have HO42 := Lib.hid hown4; clear hown4 hgrow4 hat4))
          have cR := HCR.out _ _ HW2.out
          go_quiet (fail)
          go_wp2
          have hgt : g < W.heap.size := hgS
          obtain ⟨out2, hout2⟩ : ∃ o2, Hid (ordG n E j ++ [(X : Int)] = o2) := ⟨_, rfl⟩
          rw [hout2.out] at HST HUS HOL HOG
          have HO43 : Hid (w2.ownsRow W.heap.size 3 1 (.slice (some ⟨g4, 0, none⟩) ((ordG n E j).length + 1) cap4) out2.length (out2.map (Value.int .i64))) := by
            have := HO42.out
            rw [← HOL.out, ← hout2.out, List.map_append, List.length_append]; exact this
          have HIV := Lib.hid HST.out.1
          have HW3 : Hid (OrdW W g C (opO E out2 us 0) (w2.drewN nq)) := (HW2.out.drewN nq).congr HST.out.2
          generalize (ordG n E j).length + 1 = m4 at *
          clear HST HW2 HO42 HO41 HO31 HW1 hcn hcn2 cR CM2 CD
          go_loopg [3, 47] us.length (fun gk v3 v47 wx => ∃ (i : Nat) (Q3 : List Int), Hid (gk + i = us.length) ∧ v47 = .int .i64 i ∧ Hid (Inv n out2 Q3 (opO E out2 us i)) ∧ Hid (wx.ownsRow W.heap.size 3 1 v3 Q3.length (Q3.map (Value.int .i64))) ∧ Hid (wx.ownsRow W.heap.size 3 1 (.slice (some ⟨g4, 0, none⟩) m4 cap4) out2.length (out2.map (Value.int .i64))) ∧ Hid (Own.Apart v3 (.slice (some ⟨g4, 0, none⟩) m4 cap4)) ∧ Hid (OrdW W g C (opO E out2 us i) wx))
          case atStart => exact ⟨0, _, (by show _ = _; omega), rfl, HIV, HO32, HO43, HAp2, HW3⟩
          case round =>
            obtain ⟨i, Q3, hi3, rfl, HI3, HP3, HP4, HPA, HWx⟩ := hrel
            by_cases hlt : i < us.length
            · have hg3 := hi3.out
              obtain ⟨Gn, hGn⟩ : ∃ Gn, Hid (gk = Gn + 1) := ⟨gk - 1, by show _ = _; omega⟩
              clear hg3
              obtain ⟨b, off, rfl, hb, hc⟩ := HIU.out _ _ HWx.out i hlt
              have hub2 := hub.out b off rfl
              have hi256 : (i : Int) < 256 := by have := HUL.out; omega
              have hui := HUS.out i hlt
              have HS3 := Lib.hid (inv_step hlt HI3.out hui.1.1 hui.1.2 hui.2)
              have HOS := Lib.hid (opO_step E out2 us i hlt)
              have h1 := HS3.out.1
              obtain ⟨Y, hY⟩ : ∃ Y : Nat, Hid (us.getD i 0 = (Y : Int)) := ⟨(us.getD i 0).toNat, by show _ = _; omega⟩
              rw [hY.out] at HS3 HOS hui hc h1
              have hlt1 : (i : Int) < (us.length : Int) := by omega
              have hi0 : (0 : Int) ≤ (i : Int) := by omega
              have hY0 : (0 : Int) ≤ (Y : Int) := by omega
              have hY1 : (Y : Int) < 65 := by omega
              have hY2 : Y ≤ 64 := by omega
              have cO := HC.out.cellO HWx.out Y hY2
              have fO := HWx.out.row.frozen (66 + Y)
              have hTm : opO E out2 us i (Y : Int) ≤ 256 + 256 := by
                have a1 : cnt E out2 (Y : Int) ≤ 256 := by
                  unfold cnt opn
                  have := List.length_filter_le (fun e : Int × Int => e.1 == (Y : Int) && !(out2.contains e.2)) E
                  have := HN.out.2
                  omega
                have a2 : (us.drop i).count (Y : Int) ≤ 256 := Nat.le_trans List.count_le_length (by rw [List.length_drop]; have := HUL.out; omega)
                unfold opO; omega
              have HQ3 : Hid (Q3.length ≤ 64) := Nat.le_trans HI3.out.len HN.out.1
              have HWn := Lib.hid (HWx.out.setO Y hY2)
              obtain ⟨T, hT⟩ : ∃ T, Hid (opO E out2 us i (Y : Int) = T) := ⟨_, rfl⟩
              rw [hT.out] at cO HS3 h1 hTm
              obtain ⟨T2, wT, hT2⟩ : ∃ A : Int, wrap64 (T - 1) = A ∧ Hid (A = T - 1) := ⟨T - 1, by unfold wrap64; omega, rfl⟩
              have wT3 : IntKind.i64.wrap (T - 1) = T2 := by rw [wrapEq]; exact wT
              rw [← hT2.out] at HS3
              have HOS2 : Hid (∀ x, opO E out2 us (i + 1) x = if x = (Y : Int) then T2 else opO E out2 us i x) := fun x => by
                rw [HOS.out x]
                by_cases e : x = (Y : Int)
                · rw [if_pos e, if_pos e, e, hT.out, hT2.out]
                · rw [if_neg e, if_neg e]
              have HWm : Hid (OrdW W g C (opO E out2 us (i + 1)) (wr.setCell ⟨g, 66 + Y, none⟩ (.int .i64 T2))) := (HWn.out T2).congr HOS2.out
              have HP3s : Hid ((wr.setCell ⟨g, 66 + Y, none⟩ (.int .i64 T2)).ownsRow W.heap.size 3 1 _ Q3.length (Q3.map (Value.int .i64))) := ownsRow_setCell_below HP3.out hgt _
              have HP4s : Hid ((wr.setCell ⟨g, 66 + Y, none⟩ (.int .i64 T2)).ownsRow W.heap.size 3 1 (.slice (some ⟨g4, 0, none⟩) m4 cap4) out2.length (out2.map (Value.int .i64))) := ownsRow_setCell_below HP4.out hgt _
              have hsz3 := HWm.out.grow.size
              clear hTm hui hb
              by_cases h0 : T2 = 0
              · have d0 : (T2 == 0) = true := by simp [h0]
                rw [if_pos h0] at HS3
                have HI4 := Lib.hid HS3.out.2
                clear h0
                go_wp2
                go_region
                go_wp2_with (at_builtin; go_must (refine Own.lies_one rfl (.tmp 68) (.tmp 70) 57 rfl W.heap.size 3 i0 _ 8 Try.underlying57 hi hz0 hz1 hz2 rfl _ _ _ rfl _ _ _ rfl ((HP3s.out.alloc _).drew) (show ((wr.setCell ⟨g, 66 + Y, none⟩ (.int .i64 T2)).alloc (.cells #[.int .i64 (Y : Int)] 3)).cell? _ = _ from cell_new2 _ _ _ _ _) rfl ?h1 ?h2 ?h3 (wr.heap.size + 1) (by simp) ?_; (case h1 => have := HQ3.out; unfold maxLen; omega); (case h2 => have := HQ3.out; omega); (case h3 => simp at hsz3; simp; omega); intro g5 cap5 w5 hown5 hgrow5 hat5 hlt5; have HW5 := Lib.hid (((HWm.out.alloc _).drew).grown hgt hgrow5 (Own.own_block HP3.out (Nat.le_refl _))); have HP45 := Lib.hid (Own.Apart.kept HPA.out.symm ((HP4s.out.alloc _).drew) hgrow5); have HPA5 := Lib.hid (HPA.out.left (n := Q3.length + 1) (cap := cap5) hat5 (fun k e => Nat.lt_succ_of_lt (HP4.out.lt _ e).2)); have HP35 := Lib.hid hown5; clear hown5 hgrow5))
                go_roundg Gn
                case rel => exact ⟨i + 1, Q3 ++ [(Y : Int)], (by have := hi3.out; have := hGn.out; show _ = _; omega), by go_num, HI4, by rw [List.map_append, List.length_append]; exact HP35, HP45, HPA5, HW5⟩
                case measure => have := hGn.out; omega
              · have d0 : (T2 == 0) = false := beq_eq_false_iff_ne.2 h0
                rw [if_neg h0] at HS3
                have HI4 := Lib.hid HS3.out.2
                clear h0
                go_wp2
                go_region
                go_wp2
                go_roundg Gn
                case rel => exact ⟨i + 1, Q3, (by have := hi3.out; have := hGn.out; show _ = _; omega), by go_num, HI4, HP3s, HP4s, HPA, HWm.out.drew⟩
                case measure => have := hGn.out; omega
            · have hie : i = us.length := by have := hi3.out; omega
              have hge3 : ¬ (i : Int) < (us.length : Int) := by omega
              have HI4 : Hid (Inv n (ordG n E (j + 1)) Q3 (cnt E (ordG n E (j + 1)))) := by
                show Inv _ _ _ _
                rw [HOG.out]
                have := HI3.out
                rw [hie] at this
                exact inv_congr this (fun x => (opO_end E out2 us x).symm)
              have HW4 : Hid (OrdW W g C (cnt E (ordG n E (j + 1))) wr) := by
                rw [HOG.out]
                have := HWx.out
                rw [hie] at this
                exact this.congr (fun x => (opO_end E out2 us x).symm)
              have HJ1 : Hid ((ordG n E (j + 1)).length = j + 1 ∧ j + 1 ≤ n) := by
                have e1 : (ordG n E (j + 1)).length = j + 1 := by rw [HOG.out, ← hout2.out, List.length_append, HQL.out.2.2]; rfl
                exact ⟨e1, by have := (ordG_ok n E (j + 1)).len; omega⟩
              clear hlt hie
              go_wp2
              go_roundg (G0 - 1)
              case measure => have := HJ1.out; omega
              case rel => exact ⟨j + 1, Q3, by have := HJ1.out; omega, ⟨HJ1.out.1, HI4.out⟩, HP3, by rw [HOG.out]; exact HP4, HPA, HW4⟩
        · have hq0 : Q.length = 0 := by omega
          obtain ⟨a3, c3, e3⟩ := own_slice HO3.out
          rw [e3, hq0]
          have HPN := Lib.hid (ord_stop HJ.out.1 (HJ.out.2.none hq0))
          have hqi : ¬ (0 : Int) < (Q.length : Int) := by omega
          clear e3 hq hq0
          go_wp2
          go_ret
          exact ⟨_, _, rfl, by rw [HPN.out]; exact HO4.out, HWo.out⟩
end Gra
end Go.Proofs.Ytfincohdchnniaa
namespace Go.Proofs.Ytfincohdchnniaa
open Go.RowKit
namespace Gra
open In (Ints IsInts)
def inTo (l : List Int) (x : Int) (k : Nat) : Bool := (l.take k).contains x
theorem contains_no (l : List Int) (x : Int) (h : ∀ j, j < l.length → l.getD j 0 ≠ x) : l.contains x = false := by
  cases hc : l.contains x with
  | false => rfl
  | true =>
    have hm : x ∈ l := by simpa using hc
    obtain ⟨i, hi, e⟩ := List.getElem_of_mem hm
    exact absurd (by rw [List.getD_eq_getElem?_getD, List.getElem?_eq_getElem hi, Option.getD_some]; exact e) (h i hi)
theorem contains_yes (l : List Int) (x : Int) (j : Nat) (hj : j < l.length) (h : l.getD j 0 = x) : l.contains x = true := by
  have : x ∈ l := by rw [← h, List.getD_eq_getElem?_getD, List.getElem?_eq_getElem hj]; exact List.getElem_mem _
  simpa using this
theorem in_any (a : Option Addr) (cap : Nat) (l : List Int) (hl : l.length ≤ 4096) (x : Int) (w : World) (ha : Ints .i64 w a l) :
    Calls Try.prog 81 #[.slice a l.length cap, .int .i64 x] w fun e w' => e = .returned (.bool (l.contains x)) ∧ w = w' := by
  have HA := Lib.hid ha
  clear ha
  obtain ⟨RS, hRS⟩ : ∃ A : Bool, Hid (l.contains x = A) := ⟨_, rfl⟩
  rw [hRS.out]
  go_enter Try.func81, Try.ntmps81
  go_wp2
  go_loop [5] (fun i => ∃ k : Nat, k ≤ l.length ∧ i = .int .i64 k ∧ Hid (∀ j, j < k → l.getD j 0 ≠ x)) (fun i => l.length - (intOf i).toNat)
  case atStart => exact ⟨0, by omega, rfl, fun j hj => by omega⟩
  case round =>
    obtain ⟨k, hk, rfl, HK⟩ := hrel
    by_cases hlt : k < l.length
    · obtain ⟨b, off, rfl, hbl, hcc⟩ := HA.out k hlt
      have hlt1 : (k : Int) < (l.length : Int) := by omega
      have HY : Hid (l.getD k 0 = x → l.contains x = true) := contains_yes l x k hlt
      have HN : Hid (l.getD k 0 ≠ x → ∀ j, j < k + 1 → l.getD j 0 ≠ x) := fun h j hj => by
        by_cases e : j = k
        · subst e; exact h
        · exact HK.out j (by omega)
      generalize l.getD k 0 = T at *
      by_cases g : T = x
      · have d1 : (T == x) = true := by simp [g]
        have HR := Lib.hid (HY.out g)
        clear g
        go_wp2
        go_ret
        exact ⟨by rw [show RS = _ from hRS.out.symm.trans HR.out]; rfl, rfl⟩
      · have d1 : (T == x) = false := beq_eq_false_iff_ne.2 g
        have HR := Lib.hid (HN.out g)
        clear g
        go_wp2
        go_round
        case rel => exact ⟨k + 1, by omega, by go_num, HR⟩
        case measure => simp [intOf]; omega
    · have hge : ¬ (k : Int) < (l.length : Int) := by omega
      have HR := Lib.hid (contains_no l x (fun j hj => HK.out j (by omega)))
      clear hlt
      go_wp2
      go_ret
      exact ⟨by rw [show RS = _ from hRS.out.symm.trans HR.out]; rfl, rfl⟩
instance (n : Int) (l : List (Int × Int)) : Decidable (Good n l) := by unfold Good; exact inferInstance
theorem inW_dec {x n : Int} : (inW x n = false) ↔ (x < 1 ∨ n < x) := by
  constructor
  · intro h; have := inW_no h; omega
  · intro h
    cases e : inW x n with
    | false => rfl
    | true => have := inW_yes e; omega
set_option maxRecDepth 100000 in
set_option maxHeartbeats 2000000 in
theorem may_core (n : Int) (a : Option Addr) (cap : Nat) (l : List (Int × Int)) (hn0 : 0 ≤ n) (hn : n ≤ 64) (hl : l.length ≤ 256) (w : World) (ha : Prs w a l) :
    Calls Try.prog 80 #[.int .i64 n, .slice a l.length cap] w fun e w' => e = .returned (.bool (decide (Good n l))) ∧ Below w.heap.size w w' := by
  have HA := Lib.hid ha
  have d1 : decide (n < 0) = false := decide_eq_false (by omega)
  have d2 : decide (64 < n) = false := decide_eq_false (by omega)
  have d3 : decide ((256 : Int) < (l.length : Int)) = false := decide_eq_false (by omega)
  have HN : Hid (0 ≤ n ∧ n ≤ 64 ∧ l.length ≤ 256) := ⟨hn0, hn, hl⟩
  clear ha
  go_enter Try.func80, Try.ntmps80
  go_wp2
  go_loopw [5] (fun v5 wr => ∃ k : Nat, k ≤ l.length ∧ v5 = .int .i64 k ∧ Hid (∀ j, j < k → inW (l.getD j (0, 0)).1 n = true ∧ inW (l.getD j (0, 0)).2 n = true) ∧ Hid (Below w.heap.size w wr)) (fun v5 _ => l.length - (intOf v5).toNat)
  case atStart => exact ⟨0, by omega, rfl, fun j hj => by omega, Below.refl _ _⟩
  case round =>
    obtain ⟨k, hk, rfl, HV, HB⟩ := hrel
    by_cases hlt : k < l.length
    · obtain ⟨b, off, ea, hb, c0, c1⟩ := (Prs.below HA.out HB.out) k hlt
      rw [ea]
      replace ea := Lib.hid ea
      have hlt1 : (k : Int) < (l.length : Int) := by omega
      have hk0 : (0 : Int) ≤ (k : Int) := by omega
      have HNO : Hid (¬ (inW (l.getD k (0, 0)).1 n = true ∧ inW (l.getD k (0, 0)).2 n = true) → decide (Good n l) = false) := fun h => decide_eq_false fun hg => h (hg.2.2.2 k hlt)
      have HYE : Hid ((inW (l.getD k (0, 0)).1 n = true ∧ inW (l.getD k (0, 0)).2 n = true) → ∀ j, j < k + 1 → inW (l.getD j (0, 0)).1 n = true ∧ inW (l.getD j (0, 0)).2 n = true) := fun h j hj => by
        by_cases e : j = k
        · subst e; exact h
        · exact HV.out j (by omega)
      obtain ⟨p, hp⟩ : ∃ A, Hid ((l.getD k (0, 0)).1 = A) := ⟨_, rfl⟩
      obtain ⟨q, hq⟩ : ∃ A, Hid ((l.getD k (0, 0)).2 = A) := ⟨_, rfl⟩
      rw [hp.out] at c0 HNO HYE
      rw [hq.out] at c1 HNO HYE
      by_cases g1 : p < 1
      · have e1 : decide (p < 1) = true := decide_eq_true g1
        have HNF := Lib.hid (HNO.out (fun h => by have := inW_yes h.1; omega))
        go_wp2
        go_ret
        exact ⟨by rw [HNF.out]; rfl, HB.out⟩
      · have e1 : decide (p < 1) = false := decide_eq_false g1
        by_cases g2 : n < p
        · have e2 : decide (n < p) = true := decide_eq_true g2
          have HNF := Lib.hid (HNO.out (fun h => by have := inW_yes h.1; omega))
          clear g1 g2
          go_wp2
          go_ret
          exact ⟨by rw [HNF.out]; rfl, HB.out⟩
        · have e2 : decide (n < p) = false := decide_eq_false g2
          by_cases g3 : q < 1
          · have e3 : decide (q < 1) = true := decide_eq_true g3
            have HNF := Lib.hid (HNO.out (fun h => by have := inW_yes h.2; omega))
            clear g1 g2 g3
            go_wp2
            go_ret
            exact ⟨by rw [HNF.out]; rfl, HB.out⟩
          · have e3 : decide (q < 1) = false := decide_eq_false g3
            by_cases g4 : n < q
            · have e4 : decide (n < q) = true := decide_eq_true g4
              have HNF := Lib.hid (HNO.out (fun h => by have := inW_yes h.2; omega))
              clear g1 g2 g3 g4
              go_wp2
              go_ret
              exact ⟨by rw [HNF.out]; rfl, HB.out⟩
            · have e4 : decide (n < q) = false := decide_eq_false g4
              have HYF := Lib.hid (HYE.out (by
                constructor
                · cases e : inW p n with
                  | true => rfl
                  | false => rw [inW_dec] at e; omega
                · cases e : inW q n with
                  | true => rfl
                  | false => rw [inW_dec] at e; omega))
              clear g1 g2 g3 g4
              go_wp2
              go_roundw
              case rel => exact ⟨k + 1, by omega, by go_num, HYF, HB⟩
              case measure => simp [intOf]; omega
    · have hge : ¬ (k : Int) < (l.length : Int) := by omega
      have HNF : Hid (decide (Good n l) = true) := decide_eq_true ⟨HN.out.1, HN.out.2.1, HN.out.2.2, fun j hj => HV.out j (by omega)⟩
      clear hlt
      go_wp2
      go_ret
      exact ⟨by rw [HNF.out]; rfl, HB.out⟩
set_option maxRecDepth 100000 in
theorem may_any (n : Int) (a : Option Addr) (cap : Nat) (l : List (Int × Int)) (w : World) (ha : Prs w a l) :
    Calls Try.prog 80 #[.int .i64 n, .slice a l.length cap] w fun e w' => e = .returned (.bool (decide (Good n l))) ∧ Below w.heap.size w w' := by
  by_cases h1 : n < 0
  · have d1 : decide (n < 0) = true := decide_eq_true h1
    have HE : Hid (decide (Good n l) = false) := decide_eq_false fun h => by have := h.1; omega
    clear ha h1
    go_enter Try.func80, Try.ntmps80
    go_wp2
    go_ret
    exact ⟨by rw [HE.out]; rfl, Below.refl _ _⟩
  · by_cases h2 : 64 < n
    · have d1 : decide (n < 0) = false := decide_eq_false h1
      have d2 : decide (64 < n) = true := decide_eq_true h2
      have HE : Hid (decide (Good n l) = false) := decide_eq_false fun h => by have := h.2.1; omega
      clear ha h1
      go_enter Try.func80, Try.ntmps80
      go_wp2
      go_ret
      exact ⟨by rw [HE.out]; rfl, Below.refl _ _⟩
    · by_cases h3 : (256 : Int) < (l.length : Int)
      · have d1 : decide (n < 0) = false := decide_eq_false h1
        have d2 : decide (64 < n) = false := decide_eq_false h2
        have d3 : decide ((256 : Int) < (l.length : Int)) = true := decide_eq_true h3
        have HE : Hid (decide (Good n l) = false) := decide_eq_false fun h => by have := h.2.2.1; omega
        clear ha h1 h2
        go_enter Try.func80, Try.ntmps80
        go_wp2
        go_ret
        exact ⟨by rw [HE.out]; rfl, Below.refl _ _⟩
      · exact may_core n a cap l (by omega) (by omega) (by omega) w ha
theorem Good.pairs {n : Int} {l : List (Int × Int)} (h : Good n l) : ∀ e ∈ l, (1 ≤ e.1 ∧ e.1 ≤ ((n.toNat : Nat) : Int)) ∧ (1 ≤ e.2 ∧ e.2 ≤ ((n.toNat : Nat) : Int)) := by
  intro e he
  obtain ⟨i, hi, rfl⟩ := List.getElem_of_mem he
  have := h.2.2.2 i hi
  rw [List.getD_eq_getElem?_getD, List.getElem?_eq_getElem hi, Option.getD_some] at this
  have h1 := inW_yes this.1
  have h2 := inW_yes this.2
  have := h.1
  omega
/-- What Order answers: the order, and why there is none. -/
def ordRes (n : Int) (l : List (Int × Int)) : List Int × Int :=
  if Good n l then (if (ord n.toNat l).length < n.toNat then ([], 9) else (ord n.toNat l, 0)) else ([], 1)
def ListOut (r : List Int × Int) (w : World) (e : Ending) (w' : World) : Prop :=
  ∃ a cap, e = .returned (.tuple #[.slice a r.1.length cap, .int .i64 r.2]) ∧ Ints .i64 w' a r.1 ∧ Below w.heap.size w w'
def OrderedOut (n : Int) (l : List (Int × Int)) (w : World) (e : Ending) (w' : World) : Prop :=
  Below w.heap.size w w' ∧ ((¬ Good n l ∧ e = .returned (.tuple #[.pointer none, .slice none 0 0, .int .i64 1]))
    ∨ (Good n l ∧ (ord n.toNat l).length < n.toNat ∧ e = .returned (.tuple #[.pointer none, .slice none 0 0, .int .i64 9]))
    ∨ (Good n l ∧ ¬ (ord n.toNat l).length < n.toNat ∧ ∃ v O C, e = .returned (.tuple #[.pointer (some ⟨w.heap.size, 0, none⟩), v, .int .i64 0]) ∧ w'.ownsRow w.heap.size 3 1 v (ord n.toNat l).length ((ord n.toNat l).map (Value.int .i64)) ∧ Web w' w.heap.size w.heap.size n (RF l) O C))
theorem own_base {w : World} {base base' : Nat} {e : TypeId} {size n : Nat} {v : Value} {xs : List Value} (h : w.ownsRow base e size v n xs) (hb : base' ≤ base) : w.ownsRow base' e size v n xs := by
  refine ⟨h.1, ?_⟩
  rcases h.2 with h0 | ⟨g', cap, cur, hv, h1, r⟩
  · exact .inl h0
  · exact .inr ⟨g', cap, cur, hv, Nat.le_trans hb h1, r⟩
theorem grw_below {W w' : World} {g B : Nat} (h : W.grownBy w' (some g)) (hB : B ≤ g) (hBW : B ≤ W.heap.size) : Below B W w' :=
  ⟨h.os, h.tape, h.output, h.size, fun k hk => h.block k (by omega) (fun e => by cases e; omega)⟩
theorem OF_cnt (l : List (Int × Int)) (x : Nat) : OF l x = cnt l [] (x : Int) := by
  unfold OF; rw [cnt_nil]; rfl
set_option maxRecDepth 100000 in
set_option maxHeartbeats 2000000 in
theorem ordered_any (n : Int) (a : Option Addr) (cap : Nat) (l : List (Int × Int)) (w : World) (ha : Prs w a l) :
    Calls Try.prog 63 #[.int .i64 n, .slice a l.length cap] w (OrderedOut n l w) := by
  have CM := Lib.hid (made_any n a cap l w ha)
  clear ha
  by_cases hg : Good n l
  · have CM2 : Hid (Calls Try.prog 77 #[.int .i64 n, .slice a l.length cap] w fun e w' => e = .returned (.pointer (some ⟨w.heap.size, 0, none⟩)) ∧ Hid (Below w.heap.size w w' ∧ ∃ C, Web w' w.heap.size w.heap.size n (RF l) (OF l) C)) := CM.out.mono fun e w' ⟨h1, h2⟩ => by
      rcases h2 with ⟨_, e1, h3⟩ | ⟨h3, _⟩
      · exact ⟨e1, h1, h3⟩
      · exact absurd hg h3
    have HG := Lib.hid hg
    obtain ⟨N, hN⟩ : ∃ N : Nat, n = (N : Int) := ⟨n.toNat, by have := hg.1; omega⟩
    subst hN
    have CO : Hid (∀ (w' : World) (C : Nat → Value), Web w' w.heap.size w.heap.size (N : Int) (RF l) (OF l) C → Calls Try.prog 78 #[.pointer (some ⟨w.heap.size, 0, none⟩)] w' (OrderOut w' w.heap.size N l C)) := fun w' C h => order_any w.heap.size N l C w' (by have := HG.out.2.1; omega) HG.out.2.2.1 (by have := HG.out.pairs; simpa using this) h.ordC (Web.start h (fun x _ => OF_cnt l x))
    clear hg CM
    have hT : ((N : Int)).toNat = N := by simp
    have hM1 : ((ord N l).length : Int) < 65 := by have := (ordG_ok N l N).len; have := HG.out.2.1; unfold ord; omega
    have hM2 : (N : Int) < 65 := by have := HG.out.2.1; omega
    replace hT := Lib.hid hT
    by_cases hlt : (ord N l).length < N
    · have hlt1 : ((ord N l).length : Int) < (N : Int) := by omega
      replace hlt := Lib.hid hlt
      go_enter Try.func63, Try.ntmps63
      go_wp2_with (go_at_call 77; ((with_reducible refine CM2.out.mono ?_); rintro e w1 ⟨rfl, HM⟩))
      obtain ⟨hb1, C, hweb⟩ := HM.out
      have HW := Lib.hid hweb
      have HB1 := Lib.hid hb1
      clear hb1 hweb HM
      go_wp2_with (go_at_call 78; ((with_reducible refine (CO.out _ C HW.out).mono ?_); rintro e w2 ⟨v, O, rfl, hown, hord⟩; obtain ⟨av, cv, rfl⟩ := own_slice hown; have HO := Lib.hid hown; have HD := Lib.hid hord; clear hown hord))
      go_ret3
      have HB2 : Below w.heap.size w w2 := HB1.out.trans (grw_below HD.out.grow (Nat.le_refl _) HB1.out.size)
      exact ⟨HB2, .inr (.inl ⟨HG.out, by rw [hT.out]; exact hlt.out, rfl⟩)⟩
    · have hlt1 : ¬ ((ord N l).length : Int) < (N : Int) := by omega
      replace hlt := Lib.hid hlt
      go_enter Try.func63, Try.ntmps63
      go_wp2_with (go_at_call 77; ((with_reducible refine CM2.out.mono ?_); rintro e w1 ⟨rfl, HM⟩))
      obtain ⟨hb1, C, hweb⟩ := HM.out
      have HW := Lib.hid hweb
      have HB1 := Lib.hid hb1
      clear hb1 hweb HM
      go_wp2_with (go_at_call 78; ((with_reducible refine (CO.out _ C HW.out).mono ?_); rintro e w2 ⟨v, O, rfl, hown, hord⟩; obtain ⟨av, cv, rfl⟩ := own_slice hown; have HO := Lib.hid hown; have HD := Lib.hid hord; clear hown hord))
      go_ret3
      have HB2 : Below w.heap.size w w2 := HB1.out.trans (grw_below HD.out.grow (Nat.le_refl _) HB1.out.size)
      exact ⟨HB2, .inr (.inr ⟨HG.out, by rw [hT.out]; exact hlt.out, _, _, _, rfl, by rw [hT.out]; exact own_base HO.out HB1.out.size, Web.back HW.out HD.out⟩)⟩
  · have CM2 : Hid (Calls Try.prog 77 #[.int .i64 n, .slice a l.length cap] w fun e w' => e = .returned (.pointer none) ∧ Hid (Below w.heap.size w w')) := CM.out.mono fun e w' ⟨h1, h2⟩ => by
      rcases h2 with ⟨h3, _⟩ | ⟨_, h3⟩
      · exact absurd h3 hg
      · exact ⟨h3, h1⟩
    have HG := Lib.hid hg
    clear hg CM
    go_enter Try.func63, Try.ntmps63
    go_wp2_with (go_at_call 77; ((with_reducible refine CM2.out.mono ?_); rintro e w1 ⟨rfl, HM⟩))
    go_ret3
    exact ⟨HM.out, .inl ⟨HG.out, rfl⟩⟩
end Gra
end Go.Proofs.Ytfincohdchnniaa
namespace Go.Proofs.Ytfincohdchnniaa
open Go.RowKit
namespace Gra
open In (Ints IsInts)
def rdTo (E : List (Int × Int)) (out : List Int) (k : Int) (i : Nat) : Bool := !(out.contains k) && (E.take i).all (fun e => e.1 != k || out.contains e.2)
theorem rdTo_succ (E : List (Int × Int)) (out : List Int) (k : Int) (i : Nat) (h : i < E.length) : rdTo E out k (i + 1) = (rdTo E out k i && ((E.getD i (0, 0)).1 != k || out.contains (E.getD i (0, 0)).2)) := by
  unfold rdTo
  rw [take_snoc E i h, List.all_append, Bool.and_assoc]
  congr 2
  simp
theorem rdTo_zero (E : List (Int × Int)) (out : List Int) (k : Int) : rdTo E out k 0 = !(out.contains k) := by unfold rdTo; simp
theorem rdTo_end (E : List (Int × Int)) (out : List Int) (k : Int) : rdTo E out k E.length = rdy E out k := by unfold rdTo rdy; rw [List.take_length]
theorem isPick_start (n : Nat) (E : List (Int × Int)) (out : List Int) : IsPick (n + 1) n E out 0 := .inl ⟨rfl, fun k h1 h2 => by omega⟩
theorem isPick_yes {k n : Nat} {E : List (Int × Int)} {out : List Int} (hk : k ≤ n) (hr : rdy E out (k : Int) = true) : IsPick k n E out (k : Int) :=
  .inr ⟨k, rfl, Nat.le_refl _, hk, hr, fun j h1 h2 => by omega⟩
theorem isPick_no {k n : Nat} {E : List (Int × Int)} {out : List Int} {v : Int} (h : IsPick (k + 1) n E out v) (hr : rdy E out (k : Int) = false) : IsPick k n E out v := by
  rcases h with ⟨rfl, h⟩ | ⟨p, rfl, h1, h2, h3, h4⟩
  · refine .inl ⟨rfl, fun j h1 h2 => ?_⟩
    by_cases e : j = k
    · subst e; exact hr
    · exact h j (by omega) h2
  · refine .inr ⟨p, rfl, by omega, h2, h3, fun j a b => ?_⟩
    by_cases e : j = k
    · subst e; exact hr
    · exact h4 j (by omega) b
theorem isPick_top {n : Nat} {E : List (Int × Int)} {out : List Int} {v : Int} (h : IsPick 1 n E out v) : v ≤ (n : Int) ∧ 0 ≤ v := by
  rcases h with ⟨rfl, _⟩ | ⟨p, rfl, h1, h2, _⟩ <;> omega
set_option maxRecDepth 100000 in
set_option maxHeartbeats 8000000 in
theorem refOrder_core (n : Int) (a : Option Addr) (cap : Nat) (l : List (Int × Int)) (w : World) (ha : Prs w a l) :
    Calls Try.prog 67 #[.int .i64 n, .slice a l.length cap] w (ListOut (ordRes n l) w) := by
  have CM := Lib.hid (may_any n a cap l w ha)
  have HA := Lib.hid ha
  clear ha
  by_cases hg : Good n l
  · rw [decide_eq_true hg] at CM
    obtain ⟨N, hN⟩ : ∃ N : Nat, n = (N : Int) := ⟨n.toNat, by have := hg.1; omega⟩
    subst hN
    have HG := Lib.hid hg
    have hN64 : (N : Int) < 65 := by have := hg.2.1; omega
    have hL : l.length ≤ 256 := hg.2.2.1
    have hL1 : (l.length : Int) < 257 := by omega
    obtain ⟨i0, hi, hz0, hz1, hz2⟩ := info_parts info3
    have HR : Hid (ordRes (N : Int) l = if (ord N l).length < N then ([], 9) else (ord N l, 0)) := by show _ = _; unfold ordRes; rw [if_pos HG.out]; simp
    clear hg
    go_enter Try.func67, Try.ntmps67
    go_wp2_with (go_at_call 80; ((with_reducible refine CM.out.mono ?_); rintro e w1 ⟨rfl, hB1⟩; have HB1 := Lib.hid hB1; clear hB1))
    go_loopg [6] N (fun gk v6 wr => ∃ (j : Nat), Hid (gk + j = N) ∧ Hid ((ordG N l j).length = j) ∧ Hid (wr.ownsRow w.heap.size 3 1 v6 (ordG N l j).length ((ordG N l j).map (Value.int .i64))) ∧ Hid (Below w.heap.size w wr))
    case atStart => exact ⟨0, by show _ = _; omega, rfl, World.ownsRow_nil _ _ _ _, HB1⟩
    case round =>
      obtain ⟨G0, rfl⟩ : ∃ G0 : Nat, G0 = gk := ⟨_, rfl⟩
      obtain ⟨j, hj, HJ, HO, HB⟩ := hrel
      obtain ⟨av, cv, ev⟩ := own_slice HO.out
      rw [ev] at HO ⊢
      clear ev
      obtain ⟨out, hout⟩ : ∃ o, Hid (ordG N l j = o) := ⟨_, rfl⟩
      rw [hout.out] at HO HJ ⊢
      have HI : Hid (Ints .i64 wr av out) := by
        rcases HO.out.2 with ⟨e, h0⟩ | ⟨g', cap, cur, hv, _⟩
        · intro i hi; omega
        · cases hv; exact (RowAt.of_own HO.out).ints .i64 _ rfl
      have hjN : out.length ≤ N := by have := hj.out; have := HJ.out; omega
      have hjL : (out.length : Int) < 65 := by omega
      by_cases hlt : out.length < N
      · have hlt1 : (out.length : Int) < (N : Int) := by omega
        replace hlt := Lib.hid hlt
        replace hjN := Lib.hid hjN
        go_wp2
        go_loop [7, 8] (fun v7 v8 => ∃ (k : Nat) (v : Int), k ≤ N ∧ v8 = .int .i64 (k : Int) ∧ v7 = .int .i64 v ∧ Hid (IsPick (k + 1) N l out v)) (fun _ v8 => (intOf v8).toNat)
        case atStart => exact ⟨N, 0, by omega, rfl, rfl, isPick_start _ _ _⟩
        case round =>
          obtain ⟨k, v, hk, rfl, rfl, HV⟩ := hrel
          by_cases hk1 : 1 ≤ k
          · obtain ⟨K, hK⟩ : ∃ K : Int, Hid ((k : Int) = K) := ⟨_, rfl⟩
            have hK1 : (1 : Int) ≤ K := by have := hK.out; omega
            have hK2 : K < 65 := by have := hK.out; omega
            have CI : Hid (∀ x, Calls _ _ _ _ _) := fun x => in_any av cv out (by omega) x wr HI.out
            have RZ := Lib.hid (rdTo_zero l out K)
            rw [hK.out]
            generalize hb0 : out.contains K = B0 at RZ
            replace hb0 := Lib.hid hb0
            go_wp2_with (go_at_call 81; ((with_reducible refine (CI.out _).mono ?_); rintro e w2 ⟨rfl, rfl⟩; rw [hb0.out]))
            go_loop [9, 10] (fun v9 v10 => ∃ (i : Nat) (R : Bool), i ≤ l.length ∧ v10 = .int .i64 (i : Int) ∧ v9 = .bool R ∧ Hid (R = rdTo l out K i)) (fun _ v10 => l.length - (intOf v10).toNat)
            case atStart => exact ⟨0, _, by omega, rfl, rfl, RZ.out.symm⟩
            case round =>
              obtain ⟨i, R, hi2, rfl, rfl, HRD⟩ := hrel
              by_cases hlti : i < l.length
              · obtain ⟨b, off, ea, hb, c0, c1⟩ := (Prs.below HA.out HB.out) i hlti
                rw [ea]
                replace ea := Lib.hid ea
                have hlti1 : (i : Int) < (l.length : Int) := by omega
                have hi0 : (0 : Int) ≤ (i : Int) := by omega
                have RS := Lib.hid (rdTo_succ l out K i hlti)
                rw [← HRD.out] at RS
                obtain ⟨p, hp⟩ : ∃ A, Hid ((l.getD i (0, 0)).1 = A) := ⟨_, rfl⟩
                obtain ⟨q, hq⟩ : ∃ A, Hid ((l.getD i (0, 0)).2 = A) := ⟨_, rfl⟩
                rw [hp.out] at c0 RS
                rw [hq.out] at c1 RS
                cases R with
                | false =>
                  have RS2 : Hid (rdTo l out K (i + 1) = false) := RS.out
                  go_wp2
                  go_round
                  case rel => exact ⟨i + 1, false, by omega, by go_num, rfl, RS2.out.symm⟩
                  case measure => simp [intOf]; omega
                | true =>
                  by_cases g : p = K
                  · have d1 : (p == K) = true := by simp [g]
                    have d2 : (p != K) = false := by simp [g]
                    generalize hb1 : out.contains q = B1 at RS
                    replace hb1 := Lib.hid hb1
                    have RS2 : Hid (rdTo l out K (i + 1) = B1) := by show _ = _; rw [RS.out, d2]; simp
                    clear g
                    go_wp2_with (go_at_call 81; ((with_reducible refine (CI.out _).mono ?_); rintro e w2 ⟨rfl, rfl⟩; rw [hb1.out]))
                    go_round
                    case rel => exact ⟨i + 1, B1, by omega, by go_num, by simp, RS2.out.symm⟩
                    case measure => simp [intOf]; omega
                  · have d1 : (p == K) = false := beq_eq_false_iff_ne.2 g
                    have d2 : (p != K) = true := by simp [g]
                    have RS2 : Hid (rdTo l out K (i + 1) = true) := by show _ = _; rw [RS.out, d2]; simp
                    clear g
                    go_wp2
                    go_round
                    case rel => exact ⟨i + 1, true, by omega, by go_num, rfl, RS2.out.symm⟩
                    case measure => simp [intOf]; omega
              · have hie : i = l.length := by omega
                have hge : ¬ (i : Int) < (l.length : Int) := by omega
                have hrd : R = rdy l out (k : Int) := by rw [HRD.out, hie, rdTo_end, hK.out]
                have hK3 : Hid (K - 1 = ((k - 1 : Nat) : Int)) := by have := hK.out; show _ = _; omega
                have HM : Hid (K.toNat = k ∧ 1 ≤ k) := ⟨by have := hK.out; omega, hk1⟩
                cases R with
                | false =>
                  have HV2 := Lib.hid (isPick_no HV.out hrd.symm)
                  clear hlti hie hrd
                  go_wp2
                  go_round
                  case rel => exact ⟨k - 1, v, by omega, by rw [hK3.out], rfl, by rw [show k - 1 + 1 = k by omega]; exact HV2.out⟩
                  case measure =>
                    rw [hK3.out]
                    have := HM.out
                    simp only [intOf]
                    omega
                | true =>
                  have HV2 : Hid (IsPick k N l out K) := by rw [← hK.out]; exact isPick_yes hk hrd.symm
                  clear hlti hie hrd
                  go_wp2
                  go_round
                  case rel => exact ⟨k - 1, K, by omega, by rw [hK3.out], rfl, by rw [show k - 1 + 1 = k by omega]; exact HV2.out⟩
                  case measure =>
                    rw [hK3.out]
                    have := HM.out
                    simp only [intOf]
                    omega
          · have hk0 : k = 0 := by omega
            subst hk0
            have hpv : v = pick N l out := pick_uniq HV.out (pick_is N l out)
            have hvb := isPick_top HV.out
            by_cases hv0 : v = 0
            · have d0 : (v == 0) = true := by simp [hv0]
              have HS : Hid ((ord N l).length < N) := by
                have e := ord_stop (n := N) (E := l) (j := j) (by rw [hout.out]; exact HJ.out) (by rw [hout.out, ← hpv]; exact hv0)
                show _ < _
                rw [e, hout.out]; exact hlt.out
              clear hv0 hpv hvb hk1
              go_wp2
              go_ret2
              rw [if_pos HS.out] at HR
              rw [HR.out]
              exact ⟨_, _, rfl, fun i hi => absurd hi (Nat.not_lt_zero i), HB.out⟩
            · have d0 : (v == 0) = false := beq_eq_false_iff_ne.2 hv0
              have HGo : Hid (ordG N l (j + 1) = out ++ [v]) := by
                have := ordG_go (n := N) (E := l) (j := j) (by rw [hout.out, ← hpv]; exact hv0)
                rw [hout.out, ← hpv] at this
                exact this
              have HJ2 : Hid (j + 1 ≤ N) := by have := hlt.out; have := HJ.out; show _ ≤ _; omega
              have hv1 : 0 ≤ v := hvb.2
              have hv2 : v < 65 := by omega
              have HJL : Hid (out.length ≤ 64) := by show _ ≤ _; omega
              clear hv0 hpv hvb hk1
              go_wp2_with (at_builtin; go_must (refine Own.list_one rfl (.tmp 57) (.tmp 59) 57 rfl w.heap.size 3 i0 _ 8 Try.underlying57 hi hz0 hz1 hz2 rfl _ _ _ rfl _ _ _ rfl (HO.out.alloc _) (Own.cell_new _ _ _) rfl ?h1 ?h2 ?h3 ?_; (case h1 => have := HJL.out; unfold maxLen; omega); (case h2 => have := HJL.out; omega); (case h3 => have := HB.out.size; simp; omega); intro v3' w3 hown3 hgrow3; have HB3 := Lib.hid ((HB.out.alloc HB.out.size _).grown hgrow3 (by have := HB.out.size; simp; omega) (Own.own_block HO.out (Nat.le_refl _))); have HO3 := Lib.hid hown3; clear hown3 hgrow3))
              go_roundg (G0 - 1)
              case measure => have := hj.out; have := HJ2.out; omega
              case rel => exact ⟨j + 1, (by have := hj.out; have := HJ2.out; show _ = _; omega), (by show _ = _; rw [HGo.out, List.length_append, HJ.out]; rfl), by rw [HGo.out, List.length_append, List.map_append]; exact HO3, HB3⟩
      · have hge : ¬ (out.length : Int) < (N : Int) := by omega
        have HS : Hid (¬ (ord N l).length < N ∧ ord N l = out) := by
          have e := ord_full (n := N) (E := l) (j := j) (by rw [hout.out]; exact HJ.out) (by have := HJ.out; omega)
          rw [hout.out] at e
          exact ⟨by rw [e]; exact hlt, e⟩
        replace hlt := Lib.hid hlt
        clear hjN
        go_wp2
        go_ret2
        rw [if_neg HS.out.1] at HR
        rw [HR.out, HS.out.2]
        exact ⟨_, _, rfl, HI.out, HB.out⟩
  · rw [decide_eq_false hg] at CM
    have HR : Hid (ordRes n l = ([], 1)) := by show _ = _; unfold ordRes; rw [if_neg hg]
    clear hg
    go_enter Try.func67, Try.ntmps67
    go_wp2_with (go_at_call 80; ((with_reducible refine CM.out.mono ?_); rintro e w1 ⟨rfl, hB1⟩; have HB1 := Lib.hid hB1; clear hB1))
    go_ret2
    rw [HR.out]
    exact ⟨_, _, rfl, fun i hi => absurd hi (Nat.not_lt_zero i), HB1.out⟩
end Gra
end Go.Proofs.Ytfincohdchnniaa
namespace Go.Proofs.Ytfincohdchnniaa
open Go.RowKit
namespace Gra
open In (Ints IsInts)
def dp1 (x y : Int) (o : List Int) : List Int := o.set (x - 1).toNat (max (o.getD (x - 1).toNat 0) (o.getD (y - 1).toNat 0 + 1))
def dpN (x : Int) (ys : List Int) (o : List Int) : List Int := ys.foldl (fun o y => dp1 x y o) o
def dpA (E : List (Int × Int)) (xs : List Int) (o : List Int) : List Int := xs.foldl (fun o x => dpN x (ndsF E x) o) o
theorem dp1_len (x y : Int) (o : List Int) : (dp1 x y o).length = o.length := by unfold dp1; rw [List.length_set]
theorem dpN_len (x : Int) (ys : List Int) : ∀ o, (dpN x ys o).length = o.length := by
  induction ys with
  | nil => exact fun o => rfl
  | cons y ys ih => intro o; show (dpN x ys (dp1 x y o)).length = _; rw [ih, dp1_len]
theorem dpA_len (E : List (Int × Int)) (xs : List Int) : ∀ o, (dpA E xs o).length = o.length := by
  induction xs with
  | nil => exact fun o => rfl
  | cons y ys ih => intro o; show (dpA E ys (dpN y (ndsF E y) o)).length = _; rw [ih, dpN_len]
theorem take_snocI (l : List Int) (k : Nat) (h : k < l.length) : l.take (k + 1) = l.take k ++ [l.getD k 0] := by
  rw [List.take_succ_eq_append_getElem h, List.getD_eq_getElem?_getD, List.getElem?_eq_getElem h]; rfl
theorem dpN_snoc (x : Int) (ys : List Int) (i : Nat) (h : i < ys.length) (o : List Int) : dpN x (ys.take (i + 1)) o = dp1 x (ys.getD i 0) (dpN x (ys.take i) o) := by
  rw [take_snocI ys i h]; unfold dpN; rw [List.foldl_append]; rfl
theorem dpA_snoc (E : List (Int × Int)) (xs : List Int) (k : Nat) (h : k < xs.length) (o : List Int) : dpA E (xs.take (k + 1)) o = dpN (xs.getD k 0) (ndsF E (xs.getD k 0)) (dpA E (xs.take k) o) := by
  rw [take_snocI xs k h]; unfold dpA; rw [List.foldl_append]; rfl
theorem dpR_snoc (E : List (Int × Int)) (x : Int) (i : Nat) (h : i < E.length) (o : List Int) : dpN x (ndsF (E.take (i + 1)) x) o = if (E.getD i (0, 0)).1 = x then dp1 x (E.getD i (0, 0)).2 (dpN x (ndsF (E.take i) x) o) else dpN x (ndsF (E.take i) x) o := by
  rw [take_snoc E i h, ndsF_snoc]
  split
  · unfold dpN; rw [List.foldl_append]; rfl
  · rfl
def InB (o : List Int) (B : Int) : Prop := ∀ i, 0 ≤ o.getD i 0 ∧ o.getD i 0 ≤ B
theorem InB.zero (n : Nat) : InB (List.replicate n 0) 0 := fun i => by
  rw [List.getD_eq_getElem?_getD, List.getElem?_replicate]
  split <;> simp
theorem getD_set (o : List Int) (i j : Nat) (v : Int) : (o.set i v).getD j 0 = if i = j ∧ i < o.length then v else o.getD j 0 := by
  rw [List.getD_eq_getElem?_getD, List.getElem?_set, List.getD_eq_getElem?_getD]
  by_cases h : i = j
  · subst h
    by_cases h2 : i < o.length
    · rw [if_pos rfl, if_pos h2, if_pos ⟨rfl, h2⟩]; rfl
    · rw [if_pos rfl, if_neg h2, if_neg (fun e => h2 e.2), List.getElem?_eq_none (by omega)]
  · rw [if_neg h, if_neg (fun e => h e.1)]
theorem InB.step {o : List Int} {B : Int} (h : InB o B) (x y : Int) : InB (dp1 x y o) (B + 1) := by
  intro i
  unfold dp1
  rw [getD_set]
  have h1 := h (x - 1).toNat
  have h2 := h (y - 1).toNat
  have h3 := h i
  split <;> omega
theorem InB.mono {o : List Int} {B B' : Int} (h : InB o B) (hb : B ≤ B') : InB o B' := fun i => by have := h i; omega
/-- How deep the nodes stand. -/
def deepF (n : Nat) (E : List (Int × Int)) : List Int := dpA E (ord n E) (List.replicate n 0)
def deepRes (n : Int) (l : List (Int × Int)) : List Int × Int :=
  if Good n l then (if (ord n.toNat l).length < n.toNat then ([], 9) else (deepF n.toNat l, 0)) else ([], 1)
theorem run_mkI (m : Nat) (hm : m ≤ 4096) (w : World) : (Instr.makeSlice 57 (.int .i64 (m : Int)) (.int .i64 (m : Int))).run Try.prog w = .ok (.slice (some ⟨w.heap.size, 0, none⟩) m m) (w.alloc (.cells (madeCells #[.int .i64 0] m) 3)) := by
  obtain ⟨i0, hi, hz0, hz1, hz2⟩ := info_parts info3
  have := run_makeSlice (P := Try.prog) (w := w) 57 3 i0 (.int .i64 0) Try.underlying57 hi hz0 .i64 .i64 m m (by omega) (by omega) (by rw [hz1]; omega) (by rw [hz2]; omega) (by omega)
  rw [this]
  simp [hz1, Value.cells]
theorem row_made (w : World) (m : Nat) : RowAt (w.alloc (.cells (madeCells #[.int .i64 0] m) 3)) w.heap.size ((List.replicate m (0 : Int)).map (Value.int .i64)) := by
  have h := World.rowIs_made w (.int .i64 0) m 3
  obtain ⟨c, hg, hs, hc⟩ := h
  refine ⟨c, 3, hg, fun i u hu => ?_⟩
  rw [List.getElem?_map, List.getElem?_replicate] at hu
  split at hu
  · rw [hc i ‹_›]; simpa using hu
  · cases hu
theorem row_get {w : World} {g : Nat} {l : List Int} (h : RowAt w g (l.map (Value.int .i64))) {i : Nat} (hi : i < l.length) : w.cell? ⟨g, i, none⟩ = some (.int .i64 (l.getD i 0)) :=
  h.cell (by rw [List.getElem?_map, List.getElem?_eq_getElem hi, List.getD_eq_getElem?_getD, List.getElem?_eq_getElem hi]; rfl)
theorem below_dN {B : Nat} {a w : World} (h : Below B a w) (n : Nat) : Below B a (w.drewN n) := ⟨h.os, h.tape, h.output, h.size, h.block⟩
theorem nds_in {n : Nat} {E : List (Int × Int)} (hr : ∀ e ∈ E, (1 ≤ e.1 ∧ e.1 ≤ (n : Int)) ∧ (1 ≤ e.2 ∧ e.2 ≤ (n : Int))) {x : Int} {i : Nat} (hi : i < (ndsF E x).length) : 1 ≤ (ndsF E x).getD i 0 ∧ (ndsF E x).getD i 0 ≤ (n : Int) := by
  have hm : (ndsF E x).getD i 0 ∈ ndsF E x := by rw [List.getD_eq_getElem?_getD, List.getElem?_eq_getElem hi]; exact List.getElem_mem _
  unfold ndsF at hm
  rw [List.mem_map] at hm
  obtain ⟨e, he, e2⟩ := hm
  have := (hr e (List.mem_filter.1 he).1).2
  unfold ndsF
  rw [← e2]; exact this
theorem ord_in {n : Nat} {E : List (Int × Int)} {k : Nat} (hk : k < (ord n E).length) : 1 ≤ (ord n E).getD k 0 ∧ (ord n E).getD k 0 ≤ (n : Int) := by
  have hm : (ord n E).getD k 0 ∈ ord n E := by rw [List.getD_eq_getElem?_getD, List.getElem?_eq_getElem hk]; exact List.getElem_mem _
  exact (ordG_ok n E n).range _ hm
theorem Web.ints {W : World} {B g : Nat} {n : Int} {R : Nat → List Int} {OW : Nat → Int} {C : Nat → Value} (h : Web W B g n R OW C) {i : Nat} (hi : isRow i) : ∃ a cap, C i = .slice a (R i).length cap ∧ Ints .i64 W a (R i) := by
  rcases (h.own i hi).2 with ⟨e, h0⟩ | ⟨g', cap, cur, hv, _⟩
  · exact ⟨none, 0, by rw [e, h0], fun j hj => by omega⟩
  · have hown := h.own i hi
    rw [hv] at hown
    exact ⟨_, cap, hv, (RowAt.of_own hown).ints .i64 _ rfl⟩
theorem own_ints {w : World} {base : Nat} {v : Value} {l : List Int} (h : w.ownsRow base 3 1 v l.length (l.map (Value.int .i64))) : ∃ a cap, v = .slice a l.length cap ∧ Ints .i64 w a l := by
  rcases h.2 with ⟨e, h0⟩ | ⟨g', cap, cur, hv, _⟩
  · exact ⟨none, 0, by rw [e, h0], fun j hj => by omega⟩
  · rw [hv] at h
    exact ⟨_, cap, hv, (RowAt.of_own h).ints .i64 _ rfl⟩
set_option maxRecDepth 100000 in
set_option maxHeartbeats 8000000 in
theorem Deep_core (n : Int) (a : Option Addr) (cap : Nat) (l : List (Int × Int)) (w : World) (ha : Prs w a l) :
    Calls Try.prog 38 #[.int .i64 n, .slice a l.length cap] w (ListOut (deepRes n l) w) := by
  have CM := Lib.hid (ordered_any n a cap l w ha)
  clear ha
  by_cases hg : Good n l ∧ ¬ (ord n.toNat l).length < n.toNat
  · obtain ⟨hg, hnl⟩ := hg
    have hf : deepRes n l = (deepF n.toNat l, 0) := by unfold deepRes; rw [if_pos hg, if_neg hnl]
    rw [hf]
    have CM2 : Hid (Calls Try.prog 63 #[.int .i64 n, .slice a l.length cap] w fun e w' => ∃ v O C, e = .returned (.tuple #[.pointer (some ⟨w.heap.size, 0, none⟩), v, .int .i64 0]) ∧ Hid (w'.ownsRow w.heap.size 3 1 v (ord n.toNat l).length ((ord n.toNat l).map (Value.int .i64))) ∧ Hid (Web w' w.heap.size w.heap.size n (RF l) O C) ∧ Hid (Below w.heap.size w w')) := CM.out.mono fun e w' ⟨h1, h2⟩ => by
      rcases h2 with ⟨h3, _⟩ | ⟨_, h3, _⟩ | ⟨_, _, v, O, C, e1, h5, h6⟩
      · exact absurd hg h3
      · exact absurd h3 hnl
      · exact ⟨v, O, C, e1, h5, h6, h1⟩
    obtain ⟨N, hN⟩ : ∃ N : Nat, n = (N : Int) := ⟨n.toNat, by have := hg.1; omega⟩
    subst hN
    have HP := Lib.hid hg.pairs
    have hN64 : (N : Int) < 65 := by have := hg.2.1; omega
    have HL : Hid (l.length ≤ 256) := hg.2.2.1
    simp only [Int.toNat_natCast] at *
    have HOL : Hid ((ord N l).length ≤ N) := (ordG_ok N l N).len
    have hmk := fun w => run_mkI N (by omega) w
    clear hg hnl hf CM
    go_enter Try.func38, Try.ntmps38
    go_wp2_with (go_at_call 63; ((with_reducible refine CM2.out.mono ?_); rintro e w2 ⟨v, O, C, rfl, HO, HW, HB⟩; obtain ⟨av, cv, rfl, hI⟩ := own_ints HO.out; have HI := Lib.hid hI; clear hI))
    have HR0 := Lib.hid (row_made w2 N)
    have HB0 : Hid (Below w2.heap.size w2 (w2.alloc (.cells (madeCells #[.int .i64 0] N) 3))) := (Below.refl _ _).alloc (Nat.le_refl _) _
    have HBW := Lib.hid HB.out.size
    clear hmk CM2
    generalize w2.alloc (.cells (madeCells #[.int .i64 0] N) 3) = wm at *
    obtain ⟨xs, hxs⟩ : ∃ xs, Hid (ord N l = xs) := ⟨_, rfl⟩
    have HXR : Hid (∀ k, k < xs.length → 1 ≤ xs.getD k 0 ∧ xs.getD k 0 ≤ (N : Int)) := fun k hk => by have := hxs.out; subst this; exact ord_in hk
    have HDF : Hid (deepF N l = dpA l xs (List.replicate N 0)) := by show deepF N l = _; unfold deepF; rw [hxs.out]
    rw [hxs.out] at HI HOL HO ⊢
    have hxl : (xs.length : Int) < 65 := by have := HOL.out; omega
    go_loopw [28] (fun v28 wr => ∃ (k : Nat) (o : List Int), k ≤ xs.length ∧ v28 = .int .i64 k ∧ Hid (o = dpA l (xs.take k) (List.replicate N 0)) ∧ Hid (InB o (257 * k) ∧ o.length = N) ∧ Hid (RowAt wr w2.heap.size (o.map (Value.int .i64))) ∧ Hid (Below w2.heap.size w2 wr)) (fun v28 _ => xs.length - (intOf v28).toNat)
    case atStart => exact ⟨0, List.replicate N 0, by omega, rfl, rfl, ⟨(InB.zero N).mono (by omega), List.length_replicate⟩, HR0, HB0⟩
    case round =>
      obtain ⟨k, o, hk, rfl, HOo, HBd, HRr, HBr⟩ := hrel
      by_cases hlt : k < xs.length
      · obtain ⟨b, off, ea, hb, c0⟩ := (In.Ints.below HI.out HBr.out) k hlt
        rw [ea]
        replace ea := Lib.hid ea
        have hlt1 : (k : Int) < (xs.length : Int) := by omega
        have hk0 : (0 : Int) ≤ (k : Int) := by omega
        have hx := HXR.out k hlt
        have HSN := Lib.hid (dpA_snoc l xs k hlt (List.replicate N 0))
        rw [← HOo.out] at HSN
        obtain ⟨X, hX⟩ : ∃ X : Nat, Hid (xs.getD k 0 = (X : Int)) := ⟨(xs.getD k 0).toNat, by show _ = _; omega⟩
        rw [hX.out] at c0 hx HSN
        have hx1 : (1 : Int) ≤ (X : Int) := hx.1
        have hx2 : (X : Int) ≤ (N : Int) := hx.2
        have hx3 : (X : Int) < 65 := by omega
        have hr1 : isRow (1 + X) := by unfold isRow; omega
        obtain ⟨ua, uc, hCu, hUI⟩ := HW.out.ints hr1
        have cR := (HW.out.cell (i := 1 + X) (by omega))
        rw [hCu] at cR
        have cR2 := (HBr.out.cell (p := ⟨w.heap.size, 1 + X, none⟩) HW.out.row.lt).trans cR
        rw [RF_nds l X (by omega)] at cR2 hUI
        have HYR : Hid (∀ i, i < (ndsF l (X : Int)).length → 1 ≤ (ndsF l (X : Int)).getD i 0 ∧ (ndsF l (X : Int)).getD i 0 ≤ (N : Int)) := fun i hi => nds_in (by have := HP.out; simpa using this) hi
        have HYL : Hid ((ndsF l (X : Int)).length ≤ 256) := Nat.le_trans (ndsF_len _ _) HL.out
        replace hUI := Lib.hid hUI
        clear cR hCu hx
        generalize ndsF l (X : Int) = ys at *
        have hyl : (ys.length : Int) < 257 := by have := HYL.out; omega
        obtain ⟨wo, rfl⟩ : ∃ wo : World, wo = wr := ⟨_, rfl⟩
        go_wp2
        go_loopw [39] (fun v39 wx => ∃ (i : Nat) (o2 : List Int), i ≤ ys.length ∧ v39 = .int .i64 i ∧ Hid (o2 = dpN (X : Int) (ys.take i) o) ∧ Hid (InB o2 (257 * k + i) ∧ o2.length = N) ∧ Hid (RowAt wx w2.heap.size (o2.map (Value.int .i64))) ∧ Hid (Below w2.heap.size w2 wx)) (fun v39 _ => ys.length - (intOf v39).toNat)
        case atStart => exact ⟨0, o, by omega, rfl, rfl, ⟨HBd.out.1.mono (by omega), HBd.out.2⟩, HRr, HBr⟩
        case round =>
          obtain ⟨i, o2, hi2, rfl, HO2, HBd2, HR2, HB2⟩ := hrel
          by_cases hlti : i < ys.length
          · obtain ⟨b2, off2, ea2, hb2, c2⟩ := (In.Ints.below hUI.out HB2.out) i hlti
            rw [ea2]
            replace ea2 := Lib.hid ea2
            have hlti1 : (i : Int) < (ys.length : Int) := by omega
            have hi0 : (0 : Int) ≤ (i : Int) := by omega
            have hy := HYR.out i hlti
            have HSN2 := Lib.hid (dpN_snoc (X : Int) ys i hlti o)
            rw [← HO2.out] at HSN2
            obtain ⟨Y, hY⟩ : ∃ Y : Nat, Hid (ys.getD i 0 = (Y : Int)) := ⟨(ys.getD i 0).toNat, by show _ = _; omega⟩
            rw [hY.out] at c2 hy HSN2
            obtain ⟨x1, hx1'⟩ : ∃ x1 : Nat, Hid (X = x1 + 1) := ⟨X - 1, by show _ = _; omega⟩
            obtain ⟨y1, hy1'⟩ : ∃ y1 : Nat, Hid (Y = y1 + 1) := ⟨Y - 1, by show _ = _; omega⟩
            have hol := HBd2.out.2
            have ex := hx1'.out
            have ey := hy1'.out
            have cx := row_get HR2.out (i := x1) (by omega)
            have cy := row_get HR2.out (i := y1) (by omega)
            have fx := HR2.out.frozen x1
            have hbx := HBd2.out.1 x1
            have hby := HBd2.out.1 y1
            have HD1 : Hid (dp1 (X : Int) (Y : Int) o2 = o2.set x1 (max (o2.getD x1 0) (o2.getD y1 0 + 1))) := by
              show dp1 _ _ _ = _
              unfold dp1
              rw [show ((X : Int) - 1).toNat = x1 by omega, show ((Y : Int) - 1).toNat = y1 by omega]
            have HBd3 : Hid (InB (dp1 (X : Int) (Y : Int) o2) (257 * k + (i + 1)) ∧ (dp1 (X : Int) (Y : Int) o2).length = N) := ⟨(HBd2.out.1.step _ _).mono (by omega), by rw [dp1_len]; exact hol⟩
            have HRs := Lib.hid (HR2.out.set x1)
            have e1 : IntKind.i64.wrap ((X : Int) - 1) = (x1 : Int) := by rw [wrapEq]; unfold wrap64; omega
            have e2 : (X : Int) - 1 = (x1 : Int) := by omega
            have e3 : IntKind.i64.wrap ((Y : Int) - 1) = (y1 : Int) := by rw [wrapEq]; unfold wrap64; omega
            have e4 : (Y : Int) - 1 = (y1 : Int) := by omega
            have n1 : (0 : Int) ≤ (x1 : Int) := by omega
            have n2 : (x1 : Int) < (N : Int) := by omega
            have n3 : (0 : Int) ≤ (y1 : Int) := by omega
            have n4 : (y1 : Int) < (N : Int) := by omega
            obtain ⟨P1, hP1⟩ : ∃ P1, Hid (o2.getD x1 0 = P1) := ⟨_, rfl⟩
            obtain ⟨P2, hP2⟩ : ∃ P2, Hid (o2.getD y1 0 = P2) := ⟨_, rfl⟩
            rw [hP1.out] at cx hbx HD1
            rw [hP2.out] at cy hby HD1
            obtain ⟨P3, hP3⟩ : ∃ P3, Hid (P2 + 1 = P3) := ⟨_, rfl⟩
            have e5 : IntKind.i64.wrap (P2 + 1) = P3 := by rw [wrapEq, ← hP3.out]; unfold wrap64; omega
            rw [hP3.out] at HD1
            clear hx1' hy1' ex ey hol hbx hby hy hx1 hx2
            go_wp2
            go_region
            go_wp2
            go_roundw
            case rel =>
              have hm : max P1 P3 = if P1 < P3 then P3 else P1 := by split <;> omega
              rw [hm] at HD1
              exact ⟨i + 1, dp1 (X : Int) (Y : Int) o2, hlti, by go_num, HSN2.out.symm, HBd3, by rw [HD1.out, List.map_set]; exact (HRs.out _).drew, (HB2.out.setCell (Nat.le_refl _) _).drew⟩
            case measure => simp [intOf]; omega
          · have hie : i = ys.length := by omega
            have hge : ¬ (i : Int) < (ys.length : Int) := by omega
            have HO3 : Hid (o2 = dpA l (xs.take (k + 1)) (List.replicate N 0)) := by show _ = _; rw [HSN.out, HO2.out, hie, List.take_length]
            have HBd3 : Hid (InB o2 (257 * (k + 1 : Nat)) ∧ o2.length = N) := ⟨HBd2.out.1.mono (by have := HYL.out; omega), HBd2.out.2⟩
            clear hlti hie
            go_wp2
            go_roundw
            case rel => exact ⟨k + 1, o2, hlt, by go_num, HO3, HBd3, HR2, HB2⟩
            case measure => simp [intOf]; omega
      · have hke : k = xs.length := by omega
        have hge : ¬ (k : Int) < (xs.length : Int) := by omega
        have HE : Hid (deepF N l = o) := by show _ = _; rw [HDF.out, HOo.out, hke, List.take_length]
        have hll := HBd.out.2
        clear hlt hke
        go_wp2
        go_ret2
        rw [HE.out]
        refine ⟨_, _, by rw [hll]; rfl, HRr.out.ints .i64 _ rfl, HB.out.trans (HBr.out.mono HBW.out)⟩
  · have CM2 : Hid (Calls Try.prog 63 #[.int .i64 n, .slice a l.length cap] w fun e w' => e = .returned (.tuple #[.pointer none, .slice none 0 0, .int .i64 (deepRes n l).2]) ∧ Hid (Below w.heap.size w w')) := CM.out.mono fun e w' ⟨h1, h2⟩ => by
      rcases h2 with ⟨h3, e1⟩ | ⟨h3, h4, e1⟩ | ⟨h3, h4, _⟩
      · rw [show deepRes n l = ([], 1) by unfold deepRes; rw [if_neg h3]]
        exact ⟨e1, h1⟩
      · rw [show deepRes n l = ([], 9) by unfold deepRes; rw [if_pos h3, if_pos h4]]
        exact ⟨e1, h1⟩
      · exact absurd ⟨h3, h4⟩ hg
    have HE : Hid ((deepRes n l).1 = []) := by
      show _ = _
      unfold deepRes
      split
      · split
        · rfl
        · exact absurd ⟨‹_›, ‹_›⟩ hg
      · rfl
    have hd : (deepRes n l).2 = 1 ∨ (deepRes n l).2 = 9 := by
      unfold deepRes
      split
      · split
        · exact .inr rfl
        · exact absurd ⟨‹_›, ‹_›⟩ hg
      · exact .inl rfl
    obtain ⟨r, hr⟩ : ∃ r, Hid (deepRes n l = r) := ⟨_, rfl⟩
    rw [hr.out] at CM2 HE hd ⊢
    clear CM hg
    obtain ⟨r1, r2⟩ := r
    simp only at HE hd CM2
    rcases hd with rfl | rfl
    · go_enter Try.func38, Try.ntmps38
      go_wp2_with (go_at_call 63; ((with_reducible refine CM2.out.mono ?_); rintro e w2 ⟨rfl, HB⟩))
      go_ret2
      rw [show r1 = [] from HE.out]
      exact ⟨_, _, rfl, fun i hi => absurd hi (Nat.not_lt_zero i), HB.out⟩
    · go_enter Try.func38, Try.ntmps38
      go_wp2_with (go_at_call 63; ((with_reducible refine CM2.out.mono ?_); rintro e w2 ⟨rfl, HB⟩))
      go_ret2
      rw [show r1 = [] from HE.out]
      exact ⟨_, _, rfl, fun i hi => absurd hi (Nat.not_lt_zero i), HB.out⟩
end Gra
end Go.Proofs.Ytfincohdchnniaa
namespace Go.Proofs.Ytfincohdchnniaa
open Go.RowKit
namespace Gra
open In (Ints IsInts)
set_option maxRecDepth 100000 in
set_option maxHeartbeats 8000000 in
theorem refDeep_core (n : Int) (a : Option Addr) (cap : Nat) (l : List (Int × Int)) (w : World) (ha : Prs w a l) :
    Calls Try.prog 45 #[.int .i64 n, .slice a l.length cap] w (ListOut (deepRes n l) w) := by
  have CM := Lib.hid (refOrder_core n a cap l w ha)
  have HA := Lib.hid ha
  clear ha
  by_cases hg : Good n l ∧ ¬ (ord n.toNat l).length < n.toNat
  · obtain ⟨hg, hnl⟩ := hg
    have hf : deepRes n l = (deepF n.toNat l, 0) := by unfold deepRes; rw [if_pos hg, if_neg hnl]
    have hf2 : ordRes n l = (ord n.toNat l, 0) := by unfold ordRes; rw [if_pos hg, if_neg hnl]
    rw [hf]
    rw [hf2] at CM
    obtain ⟨N, hN⟩ : ∃ N : Nat, n = (N : Int) := ⟨n.toNat, by have := hg.1; omega⟩
    subst hN
    have HP := Lib.hid hg.pairs
    have hN64 : (N : Int) < 65 := by have := hg.2.1; omega
    have HL : Hid (l.length ≤ 256) := hg.2.2.1
    have hL1 : (l.length : Int) < 257 := by have := HL.out; omega
    simp only [Int.toNat_natCast] at *
    have HOL : Hid ((ord N l).length ≤ N) := (ordG_ok N l N).len
    have hmk := fun w => run_mkI N (by omega) w
    clear hg hnl hf hf2
    go_enter Try.func45, Try.ntmps45
    go_wp2_with (go_at_call 67; ((with_reducible refine CM.out.mono ?_); rintro e w2 ⟨av, cv, rfl, hI, hB⟩; have HI := Lib.hid hI; have HB := Lib.hid hB; clear hI hB))
    have HR0 := Lib.hid (row_made w2 N)
    have HB0 : Hid (Below w2.heap.size w2 (w2.alloc (.cells (madeCells #[.int .i64 0] N) 3))) := (Below.refl _ _).alloc (Nat.le_refl _) _
    have HBW := Lib.hid HB.out.size
    clear hmk CM
    generalize w2.alloc (.cells (madeCells #[.int .i64 0] N) 3) = wm at *
    obtain ⟨xs, hxs⟩ : ∃ xs, Hid (ord N l = xs) := ⟨_, rfl⟩
    have HXR : Hid (∀ k, k < xs.length → 1 ≤ xs.getD k 0 ∧ xs.getD k 0 ≤ (N : Int)) := fun k hk => by have := hxs.out; subst this; exact ord_in hk
    have HDF : Hid (deepF N l = dpA l xs (List.replicate N 0)) := by show deepF N l = _; unfold deepF; rw [hxs.out]
    have HPA : Hid (Prs w2 a l) := HA.out.below HB.out
    rw [hxs.out] at HI HOL ⊢
    have hxl : (xs.length : Int) < 65 := by have := HOL.out; omega
    go_loopw [9] (fun v9 wr => ∃ (k : Nat) (o : List Int), k ≤ xs.length ∧ v9 = .int .i64 k ∧ Hid (o = dpA l (xs.take k) (List.replicate N 0)) ∧ Hid (InB o (257 * k) ∧ o.length = N) ∧ Hid (RowAt wr w2.heap.size (o.map (Value.int .i64))) ∧ Hid (Below w2.heap.size w2 wr)) (fun v9 _ => xs.length - (intOf v9).toNat)
    case atStart => exact ⟨0, List.replicate N 0, by omega, rfl, rfl, ⟨(InB.zero N).mono (by omega), List.length_replicate⟩, HR0, HB0⟩
    case round =>
      obtain ⟨k, o, hk, rfl, HOo, HBd, HRr, HBr⟩ := hrel
      by_cases hlt : k < xs.length
      · have hlt1 : (k : Int) < (xs.length : Int) := by omega
        have hk0 : (0 : Int) ≤ (k : Int) := by omega
        have hx := HXR.out k hlt
        have HSN := Lib.hid (dpA_snoc l xs k hlt (List.replicate N 0))
        rw [← HOo.out] at HSN
        obtain ⟨X, hX⟩ : ∃ X : Nat, Hid (xs.getD k 0 = (X : Int)) := ⟨(xs.getD k 0).toNat, by show _ = _; omega⟩
        have HCX : Hid (∀ wx, Below w2.heap.size w2 wx → ∃ b off, av = some ⟨b, off, none⟩ ∧ wx.cell? ⟨b, off + k, none⟩ = some (.int .i64 (X : Int)) ∧ b < w2.heap.size) := fun wx hB => by
          obtain ⟨b, off, ea, hb, c0⟩ := (In.Ints.below HI.out hB) k hlt
          obtain ⟨b', off', ea', hb', _⟩ := HI.out k hlt
          rw [ea] at ea'
          cases ea'
          rw [hX.out] at c0
          exact ⟨b, off, ea, c0, hb'⟩
        rw [hX.out] at hx HSN
        have hx1 : (1 : Int) ≤ (X : Int) := hx.1
        have hx2 : (X : Int) ≤ (N : Int) := hx.2
        obtain ⟨x1, hx1'⟩ : ∃ x1 : Nat, Hid (X = x1 + 1) := ⟨X - 1, by show _ = _; omega⟩
        have ex := hx1'.out
        have e1 : IntKind.i64.wrap ((X : Int) - 1) = (x1 : Int) := by rw [wrapEq]; unfold wrap64; omega
        have e2 : (X : Int) - 1 = (x1 : Int) := by omega
        have n1 : (0 : Int) ≤ (x1 : Int) := by omega
        have n2 : (x1 : Int) < (N : Int) := by omega
        have HX1 : Hid (((X : Int) - 1).toNat = x1 ∧ x1 < N) := ⟨by omega, by omega⟩
        clear hx hx1 hx2 ex hx1'
        obtain ⟨wo, rfl⟩ : ∃ wo : World, wo = wr := ⟨_, rfl⟩
        go_wp2
        go_loopw [10] (fun v10 wx => ∃ (i : Nat) (o2 : List Int), i ≤ l.length ∧ v10 = .int .i64 i ∧ Hid (o2 = dpN (X : Int) (ndsF (l.take i) (X : Int)) o) ∧ Hid (InB o2 (257 * k + i) ∧ o2.length = N) ∧ Hid (RowAt wx w2.heap.size (o2.map (Value.int .i64))) ∧ Hid (Below w2.heap.size w2 wx)) (fun v10 _ => l.length - (intOf v10).toNat)
        case atStart => exact ⟨0, o, by omega, rfl, rfl, ⟨HBd.out.1.mono (by omega), HBd.out.2⟩, HRr, HBr⟩
        case round =>
          obtain ⟨i, o2, hi2, rfl, HO2, HBd2, HR2, HB2⟩ := hrel
          by_cases hlti : i < l.length
          · obtain ⟨b, off, ea, c0, hb⟩ := HCX.out _ HB2.out
            rw [ea]
            replace ea := Lib.hid ea
            obtain ⟨b2, off2, ea2, hb2, c1, c2⟩ := (HPA.out.below HB2.out) i hlti
            rw [ea2]
            replace ea2 := Lib.hid ea2
            have hlti1 : (i : Int) < (l.length : Int) := by omega
            have hi0 : (0 : Int) ≤ (i : Int) := by omega
            have HSN2 := Lib.hid (dpR_snoc l (X : Int) i hlti o)
            rw [← HO2.out] at HSN2
            have hy := (HP.out (l.getD i (0, 0)) (by rw [List.getD_eq_getElem?_getD, List.getElem?_eq_getElem hlti]; exact List.getElem_mem _)).2
            obtain ⟨p, hp⟩ : ∃ A, Hid ((l.getD i (0, 0)).1 = A) := ⟨_, rfl⟩
            obtain ⟨Y, hY⟩ : ∃ Y : Nat, Hid ((l.getD i (0, 0)).2 = (Y : Int)) := ⟨((l.getD i (0, 0)).2).toNat, by show _ = _; omega⟩
            rw [hp.out] at c1 HSN2
            rw [hY.out] at c2 hy HSN2
            by_cases g : p = (X : Int)
            · have d1 : (p == (X : Int)) = true := by simp [g]
              rw [if_pos g] at HSN2
              obtain ⟨y1, hy1'⟩ : ∃ y1 : Nat, Hid (Y = y1 + 1) := ⟨Y - 1, by show _ = _; omega⟩
              have hol := HBd2.out.2
              have ey := hy1'.out
              have hx1n := HX1.out.2
              have cx := row_get HR2.out (i := x1) (by omega)
              have cy := row_get HR2.out (i := y1) (by omega)
              have fx := HR2.out.frozen x1
              have hbx := HBd2.out.1 x1
              have hby := HBd2.out.1 y1
              have HD1 : Hid (dp1 (X : Int) (Y : Int) o2 = o2.set x1 (max (o2.getD x1 0) (o2.getD y1 0 + 1))) := by
                show dp1 _ _ _ = _
                unfold dp1
                rw [HX1.out.1, show ((Y : Int) - 1).toNat = y1 by omega]
              have HBd3 : Hid (InB (dp1 (X : Int) (Y : Int) o2) (257 * k + (i + 1)) ∧ (dp1 (X : Int) (Y : Int) o2).length = N) := ⟨(HBd2.out.1.step _ _).mono (by omega), by rw [dp1_len]; exact hol⟩
              have HRs := Lib.hid (HR2.out.set x1)
              have e3 : IntKind.i64.wrap ((Y : Int) - 1) = (y1 : Int) := by rw [wrapEq]; unfold wrap64; omega
              have e4 : (Y : Int) - 1 = (y1 : Int) := by omega
              have n3 : (0 : Int) ≤ (y1 : Int) := by omega
              have n4 : (y1 : Int) < (N : Int) := by omega
              obtain ⟨P1, hP1⟩ : ∃ P1, Hid (o2.getD x1 0 = P1) := ⟨_, rfl⟩
              obtain ⟨P2, hP2⟩ : ∃ P2, Hid (o2.getD y1 0 = P2) := ⟨_, rfl⟩
              rw [hP1.out] at cx hbx HD1
              rw [hP2.out] at cy hby HD1
              obtain ⟨P3, hP3⟩ : ∃ P3, Hid (P2 + 1 = P3) := ⟨_, rfl⟩
              have e5 : IntKind.i64.wrap (P2 + 1) = P3 := by rw [wrapEq, ← hP3.out]; unfold wrap64; omega
              rw [hP3.out] at HD1
              clear hy1' ey hol hbx hby hy hx1n g
              go_wp2
              go_quiet (fail)
              go_wp2
              go_region
              go_wp2
              go_roundw
              case rel =>
                have hm : max P1 P3 = if P1 < P3 then P3 else P1 := by split <;> omega
                rw [hm] at HD1
                exact ⟨i + 1, dp1 (X : Int) (Y : Int) o2, hlti, by go_num, HSN2.out.symm, HBd3, by rw [HD1.out, List.map_set]; exact (HRs.out _).drew, (below_dN HB2.out (nq + 1)).setCell (p := ⟨w2.heap.size, x1, none⟩) (Nat.le_refl _) _⟩
              case measure => simp [intOf]; omega
            · have d1 : (p == (X : Int)) = false := beq_eq_false_iff_ne.2 g
              rw [if_neg g] at HSN2
              clear g hy
              go_wp2
              go_quiet (fail)
              go_wp2
              go_roundw
              case rel => exact ⟨i + 1, o2, hlti, by go_num, HSN2.out.symm, ⟨HBd2.out.1.mono (by omega), HBd2.out.2⟩, HR2.out.drewN _, below_dN HB2.out _⟩
              case measure => simp [intOf]; omega
          · have hie : i = l.length := by omega
            have hge : ¬ (i : Int) < (l.length : Int) := by omega
            have HO3 : Hid (o2 = dpA l (xs.take (k + 1)) (List.replicate N 0)) := by show _ = _; rw [HSN.out, HO2.out, hie, List.take_length]
            have HBd3 : Hid (InB o2 (257 * (k + 1 : Nat)) ∧ o2.length = N) := ⟨HBd2.out.1.mono (by have := HL.out; omega), HBd2.out.2⟩
            clear hlti hie
            go_wp2
            go_roundw
            case rel => exact ⟨k + 1, o2, hlt, by go_num, HO3, HBd3, HR2, HB2⟩
            case measure => simp [intOf]; omega
      · have hke : k = xs.length := by omega
        have hge : ¬ (k : Int) < (xs.length : Int) := by omega
        have HE : Hid (deepF N l = o) := by show _ = _; rw [HDF.out, HOo.out, hke, List.take_length]
        have hll := HBd.out.2
        clear hlt hke
        go_wp2
        go_ret2
        rw [HE.out]
        refine ⟨_, _, by rw [hll]; rfl, HRr.out.ints .i64 _ rfl, HB.out.trans (HBr.out.mono HBW.out)⟩
  · have CM2 : Hid (Calls Try.prog 67 #[.int .i64 n, .slice a l.length cap] w fun e w' => ∃ av cv, e = .returned (.tuple #[.slice av 0 cv, .int .i64 (deepRes n l).2]) ∧ Hid (Below w.heap.size w w')) := CM.out.mono fun e w' ⟨av, cv, e1, h2, h1⟩ => by
      by_cases h3 : Good n l
      · by_cases h4 : (ord n.toNat l).length < n.toNat
        · rw [show ordRes n l = ([], 9) by unfold ordRes; rw [if_pos h3, if_pos h4]] at e1
          rw [show deepRes n l = ([], 9) by unfold deepRes; rw [if_pos h3, if_pos h4]]
          exact ⟨av, cv, e1, h1⟩
        · exact absurd ⟨h3, h4⟩ hg
      · rw [show ordRes n l = ([], 1) by unfold ordRes; rw [if_neg h3]] at e1
        rw [show deepRes n l = ([], 1) by unfold deepRes; rw [if_neg h3]]
        exact ⟨av, cv, e1, h1⟩
    have HE : Hid ((deepRes n l).1 = []) := by
      show _ = _
      unfold deepRes
      split
      · split
        · rfl
        · exact absurd ⟨‹_›, ‹_›⟩ hg
      · rfl
    have hd : (deepRes n l).2 = 1 ∨ (deepRes n l).2 = 9 := by
      unfold deepRes
      split
      · split
        · exact .inr rfl
        · exact absurd ⟨‹_›, ‹_›⟩ hg
      · exact .inl rfl
    obtain ⟨r, hr⟩ : ∃ r, Hid (deepRes n l = r) := ⟨_, rfl⟩
    rw [hr.out] at CM2 HE hd ⊢
    clear CM hg
    obtain ⟨r1, r2⟩ := r
    simp only at HE hd CM2
    rcases hd with rfl | rfl
    · go_enter Try.func45, Try.ntmps45
      go_wp2_with (go_at_call 67; ((with_reducible refine CM2.out.mono ?_); rintro e w2 ⟨av, cv, rfl, HB⟩))
      go_ret2
      rw [show r1 = [] from HE.out]
      exact ⟨_, _, rfl, fun i hi => absurd hi (Nat.not_lt_zero i), HB.out⟩
    · go_enter Try.func45, Try.ntmps45
      go_wp2_with (go_at_call 67; ((with_reducible refine CM2.out.mono ?_); rintro e w2 ⟨av, cv, rfl, HB⟩))
      go_ret2
      rw [show r1 = [] from HE.out]
      exact ⟨_, _, rfl, fun i hi => absurd hi (Nat.not_lt_zero i), HB.out⟩
end Gra
end Go.Proofs.Ytfincohdchnniaa
