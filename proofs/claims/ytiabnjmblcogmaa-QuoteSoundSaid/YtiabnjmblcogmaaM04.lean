/- Texts put together: GraP, GraW. -/
import Derived.Test.YtiabnjmblcogmaaM03
import Derived.Deep.OwnRows
import Derived.Deep.RegionHeld3
import Derived.Deep.DeepCutAuto
import Derived.Deep.QuietTactic
set_option linter.all false
section
namespace Go.Proofs.Ytiabnjmblcogmaa
namespace Gra
/-- The needs of a node that are not met yet. -/
def opn (E : List (Int × Int)) (out : List Int) (x : Int) : List (Int × Int) := E.filter fun e => e.1 == x && !(out.contains e.2)
def cnt (E : List (Int × Int)) (out : List Int) (x : Int) : Int := ((opn E out x).length : Int)
def rdy (E : List (Int × Int)) (out : List Int) (k : Int) : Bool := !(out.contains k) && E.all (fun e => e.1 != k || out.contains e.2)
theorem rdy_iff (E : List (Int × Int)) (out : List Int) (k : Int) : rdy E out k = true ↔ k ∉ out ∧ ∀ e ∈ E, e.1 = k → e.2 ∈ out := by
  unfold rdy
  rw [Bool.and_eq_true, List.all_eq_true]
  constructor
  · rintro ⟨h1, h2⟩
    refine ⟨by simpa using h1, fun e he hk => ?_⟩
    have := h2 e he
    rw [hk] at this
    simpa using this
  · rintro ⟨h1, h2⟩
    refine ⟨by simpa using h1, fun e he => ?_⟩
    by_cases hk : e.1 = k
    · have := h2 e he hk
      simp [this]
    · simp [hk]
theorem cnt_nn (E : List (Int × Int)) (out : List Int) (x : Int) : 0 ≤ cnt E out x := by unfold cnt; omega
theorem cnt_zero (E : List (Int × Int)) (out : List Int) (k : Int) : cnt E out k = 0 ↔ ∀ e ∈ E, e.1 = k → e.2 ∈ out := by
  unfold cnt opn
  rw [show (((E.filter fun e => e.1 == k && !(out.contains e.2)).length : Int) = 0) ↔ (E.filter fun e => e.1 == k && !(out.contains e.2)) = [] from ⟨fun h => List.length_eq_zero_iff.1 (by omega), fun h => by rw [h]; rfl⟩]
  rw [List.filter_eq_nil_iff]
  constructor
  · intro h e he hk
    have := h e he
    simpa [hk] using this
  · intro h e he
    by_cases hk : e.1 = k
    · have := h e he hk
      simp [this]
    · simp [hk]
theorem rdy_cnt (E : List (Int × Int)) (out : List Int) (k : Int) : rdy E out k = true ↔ k ∉ out ∧ cnt E out k = 0 := by rw [rdy_iff, cnt_zero]
/-- The least node that is ready; 0: there is none. -/
def pick (n : Nat) (E : List (Int × Int)) (out : List Int) : Int := (((List.range n).map fun i => ((i + 1 : Nat) : Int)).find? (rdy E out)).getD 0
def IsPick (lo n : Nat) (E : List (Int × Int)) (out : List Int) (v : Int) : Prop :=
  (v = 0 ∧ ∀ k : Nat, lo ≤ k → k ≤ n → rdy E out (k : Int) = false) ∨ ∃ p : Nat, v = (p : Int) ∧ lo ≤ p ∧ p ≤ n ∧ rdy E out (p : Int) = true ∧ ∀ k : Nat, lo ≤ k → k < p → rdy E out (k : Int) = false
theorem pick_is (n : Nat) (E : List (Int × Int)) (out : List Int) : IsPick 1 n E out (pick n E out) := by
  unfold pick
  cases h : ((List.range n).map fun i => ((i + 1 : Nat) : Int)).find? (rdy E out) with
  | none =>
    refine .inl ⟨rfl, fun k h1 h2 => ?_⟩
    rw [List.find?_eq_none] at h
    have := h (k : Int) (List.mem_map.2 ⟨k - 1, List.mem_range.2 (by omega), by congr 1; omega⟩)
    simpa using this
  | some v =>
    right
    rw [List.find?_map] at h
    cases h2 : (List.range n).find? (rdy E out ∘ fun i => ((i + 1 : Nat) : Int)) with
    | none => rw [h2] at h; cases h
    | some i =>
      rw [h2] at h
      simp only [Option.map_some, Option.some.injEq] at h
      rw [List.find?_range_eq_some] at h2
      refine ⟨i + 1, by rw [Option.getD_some]; exact h.symm, by omega, ?_, ?_, fun k h3 h4 => ?_⟩
      · have := List.mem_range.1 h2.2.1; omega
      · exact h2.1
      · have := h2.2.2 (k - 1) (by omega)
        simp only [Function.comp] at this
        rw [show k - 1 + 1 = k by omega] at this
        simpa using this
theorem pick_uniq {lo n : Nat} {E : List (Int × Int)} {out : List Int} {u v : Int} (h1 : IsPick lo n E out u) (h2 : IsPick lo n E out v) : u = v := by
  rcases h1 with ⟨rfl, a⟩ | ⟨p, rfl, a1, a2, a3, a4⟩
  · rcases h2 with ⟨rfl, b⟩ | ⟨q, rfl, b1, b2, b3, b4⟩
    · rfl
    · rw [a q b1 b2] at b3; cases b3
  · rcases h2 with ⟨rfl, b⟩ | ⟨q, rfl, b1, b2, b3, b4⟩
    · rw [b p a1 a2] at a3; cases a3
    · congr 1
      rcases Nat.lt_trichotomy p q with h | h | h
      · rw [b4 p a1 h] at a3; cases a3
      · exact h
      · rw [a4 q b1 h] at b3; cases b3
theorem pick_pos {n : Nat} {E : List (Int × Int)} {out : List Int} (h : pick n E out ≠ 0) : 1 ≤ pick n E out ∧ pick n E out ≤ n ∧ pick n E out ∉ out ∧ ∀ e ∈ E, e.1 = pick n E out → e.2 ∈ out := by
  rcases pick_is n E out with ⟨e, _⟩ | ⟨p, e, h1, h2, h3, _⟩
  · exact absurd e h
  · rw [e]
    rw [rdy_iff] at h3
    exact ⟨by omega, by omega, h3.1, h3.2⟩
/-- The order, as far as it goes in j picks. -/
def ordG (n : Nat) (E : List (Int × Int)) : Nat → List Int
  | 0 => []
  | j + 1 => if pick n E (ordG n E j) = 0 then ordG n E j else ordG n E j ++ [pick n E (ordG n E j)]
def ord (n : Nat) (E : List (Int × Int)) : List Int := ordG n E n
structure OrdOk (n : Nat) (E : List (Int × Int)) (out : List Int) : Prop where
  nodup : out.Nodup
  range : ∀ x ∈ out, 1 ≤ x ∧ x ≤ n
  closed : ∀ e ∈ E, e.1 ∈ out → e.2 ∈ out
theorem OrdOk.push {n : Nat} {E : List (Int × Int)} {out : List Int} (h : OrdOk n E out) (hp : pick n E out ≠ 0) : OrdOk n E (out ++ [pick n E out]) := by
  obtain ⟨h1, h2, h3, h4⟩ := pick_pos hp
  generalize pick n E out = p at *
  refine ⟨?_, fun x hx => ?_, fun e he hx => ?_⟩
  · rw [List.nodup_append]
    refine ⟨h.nodup, by simp, fun a ha b hb => ?_⟩
    simp at hb
    subst hb
    intro e; subst e; exact h3 ha
  · rw [List.mem_append] at hx
    rcases hx with hx | hx
    · exact h.range x hx
    · simp at hx; subst hx; exact ⟨h1, h2⟩
  · rw [List.mem_append] at hx ⊢
    rcases hx with hx | hx
    · exact .inl (h.closed e he hx)
    · simp at hx; exact .inl (h4 e he hx)
theorem ordG_ok (n : Nat) (E : List (Int × Int)) (j : Nat) : OrdOk n E (ordG n E j) := by
  induction j with
  | zero => exact ⟨List.nodup_nil, fun x hx => (by cases hx), fun e _ hx => (by cases hx)⟩
  | succ j ih =>
    rw [ordG]
    split
    · exact ih
    · exact ih.push ‹_›
theorem nodup_le (n : Nat) : ∀ (l : List Int), l.Nodup → (∀ x ∈ l, 1 ≤ x ∧ x ≤ (n : Int)) → l.length ≤ n := by
  induction n with
  | zero => intro l _ h; cases l with
    | nil => simp
    | cons a l => have := h a (List.mem_cons_self); omega
  | succ n ih =>
    intro l hn h
    by_cases hm : ((n + 1 : Nat) : Int) ∈ l
    · have h1 := ih (l.erase ((n + 1 : Nat) : Int)) (hn.erase _) (fun x hx => by
        have h2 := h x (List.mem_of_mem_erase hx)
        have h3 : x ≠ ((n + 1 : Nat) : Int) := fun e => by
          rw [hn.mem_erase_iff] at hx
          exact hx.1 e
        omega)
      rw [List.length_erase_of_mem hm] at h1
      omega
    · have := ih l hn (fun x hx => by
        have h2 := h x hx
        have h3 : x ≠ ((n + 1 : Nat) : Int) := fun e => hm (e ▸ hx)
        omega)
      omega
theorem OrdOk.len {n : Nat} {E : List (Int × Int)} {out : List Int} (h : OrdOk n E out) : out.length ≤ n := nodup_le n out h.nodup h.range
theorem ordG_stop {n : Nat} {E : List (Int × Int)} {j : Nat} (h : pick n E (ordG n E j) = 0) (i : Nat) : ordG n E (j + i) = ordG n E j := by
  induction i with
  | zero => rfl
  | succ i ih => rw [← Nat.add_assoc, ordG, ih, if_pos h]
theorem ordG_go {n : Nat} {E : List (Int × Int)} {j : Nat} (h : pick n E (ordG n E j) ≠ 0) : ordG n E (j + 1) = ordG n E j ++ [pick n E (ordG n E j)] := by rw [ordG, if_neg h]
/-- Where it stops it has all. -/
theorem ord_stop {n : Nat} {E : List (Int × Int)} {j : Nat} (hj : (ordG n E j).length = j) (h : pick n E (ordG n E j) = 0) : ord n E = ordG n E j := by
  have h1 := (ordG_ok n E j).len
  rw [hj] at h1
  have := ordG_stop h (n - j)
  rw [show j + (n - j) = n by omega] at this
  exact this
theorem ord_full {n : Nat} {E : List (Int × Int)} {j : Nat} (hj : (ordG n E j).length = j) (h : n ≤ j) : ord n E = ordG n E j := by
  have h1 := (ordG_ok n E j).len
  rw [show j = n by omega]; rfl
/-- What the order's loop holds: what is ready, and how many needs are open. -/
structure Inv (n : Nat) (out Q : List Int) (O : Int → Int) : Prop where
  nodup : Q.Nodup
  range : ∀ x ∈ Q, 1 ≤ x ∧ x ≤ (n : Int) ∧ x ∉ out
  zero : ∀ x, 1 ≤ x → x ≤ (n : Int) → x ∉ out → (x ∈ Q ↔ O x = 0)
theorem Inv.len {n : Nat} {out Q : List Int} {O : Int → Int} (h : Inv n out Q O) : Q.length ≤ n := nodup_le n Q h.nodup fun x hx => ⟨(h.range x hx).1, (h.range x hx).2.1⟩
theorem Inv.pick {n : Nat} {E : List (Int × Int)} {out Q : List Int} (h : Inv n out Q (cnt E out)) (h0 : 0 < Q.length) : pick n E out = mnTo Q (Q.length - 1) ∧ mnTo Q (Q.length - 1) ∈ Q := by
  obtain ⟨i, hi, e⟩ := mnTo_mem Q (Q.length - 1)
  have hm : mnTo Q (Q.length - 1) ∈ Q := by
    rw [e, List.getD_eq_getElem?_getD, List.getElem?_eq_getElem (show i < Q.length by omega)]
    exact List.getElem_mem _
  refine ⟨?_, hm⟩
  obtain ⟨h1, h2, h3⟩ := h.range _ hm
  have h4 := (h.zero _ h1 h2 h3).1 hm
  refine pick_uniq (pick_is n E out) (.inr ⟨(mnTo Q (Q.length - 1)).toNat, by omega, by omega, by omega, ?_, fun k hk1 hk2 => ?_⟩)
  · rw [show ((mnTo Q (Q.length - 1)).toNat : Int) = mnTo Q (Q.length - 1) by omega, rdy_cnt]
    exact ⟨h3, h4⟩
  · cases hr : rdy E out (k : Int) with
    | false => rfl
    | true =>
      rw [rdy_cnt] at hr
      have hk := (h.zero (k : Int) (by omega) (by omega) hr.1).2 hr.2
      obtain ⟨q, hq, e⟩ := List.getElem_of_mem hk
      have h5 := mnTo_le Q (Q.length - 1) q (by omega)
      rw [List.getD_eq_getElem?_getD, List.getElem?_eq_getElem hq, Option.getD_some, e] at h5
      omega
theorem Inv.none {n : Nat} {E : List (Int × Int)} {out Q : List Int} (h : Inv n out Q (cnt E out)) (h0 : Q.length = 0) : Gra.pick n E out = 0 := by
  refine pick_uniq (pick_is n E out) (.inl ⟨rfl, fun k hk1 hk2 => ?_⟩)
  cases hr : rdy E out (k : Int) with
  | false => rfl
  | true =>
    rw [rdy_cnt] at hr
    have hk := (h.zero (k : Int) (by omega) (by omega) hr.1).2 hr.2
    rw [List.length_eq_zero_iff.1 h0] at hk
    cases hk
/-- By whom a node is needed. -/
def usrP (E : List (Int × Int)) (x : Int) : List Int := (E.filter fun e => e.2 == x).map (·.1)
theorem cnt_push (E : List (Int × Int)) (out : List Int) (nd x : Int) (h : nd ∉ out) : cnt E out x = cnt E (out ++ [nd]) x + (((usrP E nd).count x : Nat) : Int) := by
  unfold cnt opn usrP
  induction E with
  | nil => rfl
  | cons e E ih =>
    simp only [List.filter_cons]
    by_cases h1 : e.1 = x
    · by_cases h2 : e.2 = nd
      · have a1 : (e.1 == x && !out.contains e.2) = true := by simp [h1, h2, h]
        have a2 : (e.1 == x && !(out ++ [nd]).contains e.2) = false := by simp [h2]
        have a3 : (e.2 == nd) = true := by simp [h2]
        rw [if_pos a1, if_neg (by rw [a2]; decide), if_pos a3]
        simp only [List.length_cons, List.map_cons, h1, List.count_cons_self]
        omega
      · have a3 : ¬ (e.2 == nd) = true := by simp [h2]
        rw [if_neg a3]
        have a4 : (e.1 == x && !(out ++ [nd]).contains e.2) = (e.1 == x && !out.contains e.2) := by simp [h2]
        rw [a4]
        split
        · simp only [List.length_cons]; omega
        · exact ih
    · have a1 : ¬ (e.1 == x && !out.contains e.2) = true := by simp [h1]
      have a2 : ¬ (e.1 == x && !(out ++ [nd]).contains e.2) = true := by simp [h1]
      rw [if_neg a1, if_neg a2]
      split
      · rw [List.map_cons, List.count_cons_of_ne h1]; exact ih
      · exact ih
theorem kp_mem (nd : Int) (l : List Int) (x : Int) : x ∈ kp nd l ↔ x ∈ l ∧ x ≠ nd := by
  unfold kp
  rw [List.mem_filter]
  simp
theorem kp_nodup (nd : Int) (l : List Int) (h : l.Nodup) : (kp nd l).Nodup := h.filter _
/-- The open needs while the users of a node are told. -/
def opO (E : List (Int × Int)) (out : List Int) (us : List Int) (i : Nat) (x : Int) : Int := cnt E out x + (((us.drop i).count x : Nat) : Int)
theorem inv_start {n : Nat} {E : List (Int × Int)} {out Q : List Int} {nd : Int} (h : Inv n out Q (cnt E out)) (hm : nd ∈ Q) :
    Inv n (out ++ [nd]) (kp nd Q) (opO E (out ++ [nd]) (usrP E nd) 0) ∧ ∀ x, opO E (out ++ [nd]) (usrP E nd) 0 x = cnt E out x := by
  have e : ∀ x, opO E (out ++ [nd]) (usrP E nd) 0 x = cnt E out x := fun x => (cnt_push E out nd x (h.range nd hm).2.2).symm
  refine ⟨⟨kp_nodup _ _ h.nodup, fun x hx => ?_, fun x h1 h2 h3 => ?_⟩, e⟩
  · rw [kp_mem] at hx
    obtain ⟨a, b, c⟩ := h.range x hx.1
    exact ⟨a, b, by simp [c, hx.2]⟩
  · rw [e, kp_mem]
    simp at h3
    rw [h.zero x h1 h2 h3.1]
    exact ⟨fun a => a.1, fun a => ⟨a, h3.2⟩⟩
theorem opO_step (E : List (Int × Int)) (out us : List Int) (i : Nat) (hi : i < us.length) (x : Int) :
    opO E out us (i + 1) x = if x = us.getD i 0 then opO E out us i x - 1 else opO E out us i x := by
  unfold opO
  rw [List.drop_eq_getElem_cons hi, List.getD_eq_getElem?_getD, List.getElem?_eq_getElem hi, Option.getD_some]
  by_cases e : x = us[i]
  · rw [if_pos e, e, List.count_cons_self]; omega
  · rw [if_neg e, List.count_cons_of_ne (fun a => e a.symm)]
theorem inv_step {n : Nat} {E : List (Int × Int)} {out us Q : List Int} {i : Nat} (hi : i < us.length) (h : Inv n out Q (opO E out us i)) (hu1 : 1 ≤ us.getD i 0) (hu2 : us.getD i 0 ≤ (n : Int)) (hu3 : us.getD i 0 ∉ out) :
    1 ≤ opO E out us i (us.getD i 0) ∧ Inv n out (if opO E out us i (us.getD i 0) - 1 = 0 then Q ++ [us.getD i 0] else Q) (opO E out us (i + 1)) := by
  have hge : 1 ≤ opO E out us i (us.getD i 0) := by
    unfold opO
    have h1 := cnt_nn E out (us.getD i 0)
    have h2 : 1 ≤ (us.drop i).count (us.getD i 0) := by
      rw [List.drop_eq_getElem_cons hi, List.getD_eq_getElem?_getD, List.getElem?_eq_getElem hi, Option.getD_some, List.count_cons_self]; omega
    omega
  refine ⟨hge, ?_⟩
  have hs := opO_step E out us i hi
  generalize us.getD i 0 = u at *
  have hnq : u ∉ Q := fun hq => by have := (h.zero u hu1 hu2 hu3).1 hq; omega
  by_cases h0 : opO E out us i u - 1 = 0
  · rw [if_pos h0]
    refine ⟨?_, fun x hx => ?_, fun x h1 h2 h3 => ?_⟩
    · rw [List.nodup_append]
      refine ⟨h.nodup, by simp, fun a ha b hb => ?_⟩
      simp at hb
      subst hb
      intro e; subst e; exact hnq ha
    · rw [List.mem_append] at hx
      rcases hx with hx | hx
      · exact h.range x hx
      · simp at hx; subst hx; exact ⟨hu1, hu2, hu3⟩
    · rw [hs x]
      by_cases e : x = u
      · rw [if_pos e, e]; simp [h0]
      · rw [if_neg e, List.mem_append]
        simp [e, h.zero x h1 h2 h3]
  · rw [if_neg h0]
    refine ⟨h.nodup, h.range, fun x h1 h2 h3 => ?_⟩
    rw [hs x]
    by_cases e : x = u
    · rw [if_pos e, e]; simp [h0, hnq]
    · rw [if_neg e]; exact h.zero x h1 h2 h3
theorem opO_end (E : List (Int × Int)) (out us : List Int) (x : Int) : opO E out us us.length x = cnt E out x := by unfold opO; simp
/-- Users lie behind. -/
theorem usr_out {n : Nat} {E : List (Int × Int)} {out : List Int} {nd u : Int} (h : OrdOk n E out) (h1 : nd ∉ out) (h2 : ∀ e ∈ E, e.1 = nd → e.2 ∈ out) (hu : u ∈ usrP E nd) : u ∉ out ++ [nd] := by
  unfold usrP at hu
  rw [List.mem_map] at hu
  obtain ⟨e, he, rfl⟩ := hu
  rw [List.mem_filter] at he
  have he2 : e.2 = nd := by simpa using he.2
  intro hc
  rw [List.mem_append] at hc
  rcases hc with hc | hc
  · have := h.closed e he.1 hc
    rw [he2] at this
    exact h1 this
  · simp at hc
    have := h2 e he.1 hc
    rw [he2] at this
    exact h1 this
theorem cnt_nil (E : List (Int × Int)) (x : Int) : cnt E [] x = (((E.filter fun e => e.1 == x).map (·.2)).length : Int) := by
  unfold cnt opn
  simp
/-- The nodes that nothing holds, from the first on. -/
def frees (O : Int → Int) : Nat → List Int
  | 0 => []
  | k + 1 => if O ((k + 1 : Nat) : Int) = 0 then frees O k ++ [((k + 1 : Nat) : Int)] else frees O k
theorem frees_mem (O : Int → Int) (k : Nat) (x : Int) : x ∈ frees O k ↔ 1 ≤ x ∧ x ≤ (k : Int) ∧ O x = 0 := by
  induction k with
  | zero => simp [frees]; omega
  | succ k ih =>
    rw [frees]
    split
    · rw [List.mem_append, ih, List.mem_singleton]
      constructor
      · rintro (h | rfl)
        · exact ⟨h.1, by omega, h.2.2⟩
        · exact ⟨by omega, by omega, ‹_›⟩
      · rintro ⟨a, b, c⟩
        by_cases e : x = ((k + 1 : Nat) : Int)
        · exact .inr e
        · exact .inl ⟨a, by omega, c⟩
    · rw [ih]
      constructor
      · rintro ⟨a, b, c⟩; exact ⟨a, by omega, c⟩
      · rintro ⟨a, b, c⟩
        refine ⟨a, ?_, c⟩
        by_cases e : x = ((k + 1 : Nat) : Int)
        · subst e; exact absurd c ‹_›
        · omega
theorem frees_nodup (O : Int → Int) (k : Nat) : (frees O k).Nodup := by
  induction k with
  | zero => simp [frees]
  | succ k ih =>
    rw [frees]
    split
    · rw [List.nodup_append]
      refine ⟨ih, by simp, fun a ha b hb => ?_⟩
      rw [frees_mem] at ha
      simp at hb
      omega
    · exact ih
theorem frees_len (O : Int → Int) (k : Nat) : (frees O k).length ≤ k := nodup_le k _ (frees_nodup O k) fun x hx => by rw [frees_mem] at hx; exact ⟨hx.1, hx.2.1⟩
theorem inv_first (n : Nat) (E : List (Int × Int)) : Inv n [] (frees (cnt E []) n) (cnt E []) :=
  ⟨frees_nodup _ _, fun x hx => by rw [frees_mem] at hx; exact ⟨hx.1, hx.2.1, by simp⟩, fun x h1 h2 _ => by rw [frees_mem]; exact ⟨fun a => a.2.2, fun a => ⟨h1, h2, a⟩⟩⟩
end Gra
end Go.Proofs.Ytiabnjmblcogmaa
end
section
namespace Go.Proofs.Ytiabnjmblcogmaa
open Go.RowKit
namespace Gra
/-- The pairs that stand from an address on. -/
def Prs (w : World) (a : Option Addr) (l : List (Int × Int)) : Prop :=
  ∀ i, i < l.length → ∃ b off, a = some ⟨b, off, none⟩ ∧ b < w.heap.size ∧ w.cell? ⟨b, off + i * 2, none⟩ = some (.int .i64 (l.getD i (0, 0)).1) ∧ w.cell? ⟨b, off + i * 2 + 1, none⟩ = some (.int .i64 (l.getD i (0, 0)).2)
theorem Prs.below {w w' : World} {a : Option Addr} {l : List (Int × Int)} (h : Prs w a l) (hb : Below w.heap.size w w') : Prs w' a l := fun i hi => by
  obtain ⟨b, off, ha, hlt, hc, hd⟩ := h i hi
  exact ⟨b, off, ha, Nat.lt_of_lt_of_le hlt hb.size, (hb.cell (p := ⟨b, off + i * 2, none⟩) hlt).trans hc, (hb.cell (p := ⟨b, off + i * 2 + 1, none⟩) hlt).trans hd⟩
theorem below2 {w a b : World} (h : Below w.heap.size w a) (h2 : Below a.heap.size a b) : Below w.heap.size w b := h.trans (h2.mono h.size)
theorem below_al {w x : World} (h : Below w.heap.size w x) (o : Obj) : Below w.heap.size w (x.alloc o) := h.alloc h.size o
theorem frz_al (w : World) (o : Obj) (a : Addr) (h : a.block < w.heap.size) : (w.alloc o).drew.frozen? a = w.frozen? a := ((Below.refl w.heap.size w).alloc (Nat.le_refl _) o).drew.frozen h
/-- What a cell holds, in whatever world. -/
def vl (a : Addr) (w : World) : Value := (w.cell? a).getD (.int .i64 0)
theorem vl_eq {a : Addr} {w : World} {v : Value} (h : w.cell? a = some v) : vl a w = v := by unfold vl; rw [h]; rfl
theorem vl_some {a : Addr} {w : World} {v : Value} (h : w.cell? a = some v) : w.cell? a = some (vl a w) := by unfold vl; rw [h]; rfl
theorem cell_ad {w : World} (o : Obj) (a : Addr) (h : a.block < w.heap.size) : (w.alloc o).drew.cell? a = w.cell? a := ((Below.refl w.heap.size w).alloc (Nat.le_refl _) o).drew.cell h
def inW (x n : Int) : Bool := decide (1 ≤ x) && decide (x ≤ n)
theorem inW_yes {x n : Int} (h : inW x n = true) : 1 ≤ x ∧ x ≤ n := by
  unfold inW at h
  rw [Bool.and_eq_true] at h
  exact ⟨of_decide_eq_true h.1, of_decide_eq_true h.2⟩
theorem inW_no {x n : Int} (h : inW x n = false) : ¬ (1 ≤ x ∧ x ≤ n) := fun ⟨h1, h2⟩ => by
  unfold inW at h
  rw [decide_eq_true h1, decide_eq_true h2] at h
  cases h
theorem is_any (g : Nat) (n x : Int) (w : World) (hc : w.cell? ⟨g, 0, none⟩ = some (.int .i64 n)) :
    Calls Try.prog 100 #[.pointer (some ⟨g, 0, none⟩), .int .i64 x] w fun e w' => e = .returned (.bool (inW x n)) ∧ w = w' := by
  have HS : Hid (inW x n = (decide (1 ≤ x) && decide (x ≤ n))) := rfl
  by_cases h1 : 1 ≤ x
  · have d1 : decide (1 ≤ x) = true := decide_eq_true h1
    by_cases h2 : x ≤ n
    · have d2 : decide (x ≤ n) = true := decide_eq_true h2
      have HV : Hid (inW x n = true) := by show _ = _; rw [HS.out, d1, d2]; rfl
      go_enter Try.func100, Try.ntmps100
      go_wp2
      go_ret
      exact ⟨by rw [HV.out]; rfl, rfl⟩
    · have d2 : decide (x ≤ n) = false := decide_eq_false h2
      have HV : Hid (inW x n = false) := by show _ = _; rw [HS.out, d1, d2]; rfl
      go_enter Try.func100, Try.ntmps100
      go_wp2
      go_ret
      exact ⟨by rw [HV.out]; rfl, rfl⟩
  · have d1 : decide (1 ≤ x) = false := decide_eq_false h1
    have HV : Hid (inW x n = false) := by show _ = _; rw [HS.out, d1]; rfl
    go_enter Try.func100, Try.ntmps100
    go_wp2
    go_ret
    exact ⟨by rw [HV.out]; rfl, rfl⟩
def isRow (i : Nat) : Prop := (1 ≤ i ∧ i ≤ 65) ∨ (131 ≤ i ∧ i ≤ 195)
/-- A web: its number of nodes, its rows (what each node needs from cell 1 on, by whom it is needed from cell 131 on), its open needs (from cell 66 on). -/
structure Web (w : World) (B g : Nat) (n : Int) (R : Nat → List Int) (O : Nat → Int) (C : Nat → Value) : Prop where
  row : w.rowIs g 118 196 C
  lo : B ≤ g
  c0 : C 0 = .int .i64 n
  cO : ∀ x, x ≤ 64 → C (66 + x) = .int .i64 (O x)
  own : ∀ i, isRow i → w.ownsRow B 3 1 (C i) (R i).length ((R i).map (Value.int .i64))
  ne : ∀ i, isRow i → (C i).ownBlock ≠ some g
  ap : ∀ i j, isRow i → isRow j → i ≠ j → Own.Apart (C i) (C j)
namespace Web
variable {w w' : World} {B g : Nat} {n : Int} {R : Nat → List Int} {O : Nat → Int} {C : Nat → Value}
theorem below (h : Web w B g n R O C) (hb : Below w.heap.size w w') : Web w' B g n R O C :=
  ⟨h.row.of_block (hb.block g h.row.lt), h.lo, h.c0, h.cO, fun i hi => Own.own_below (h.own i hi) hb, h.ne, h.ap⟩
theorem alloc (h : Web w B g n R O C) (o : Obj) : Web (w.alloc o) B g n R O C := h.below ((Below.refl _ _).alloc (Nat.le_refl _) o)
theorem drew (h : Web w B g n R O C) : Web w.drew B g n R O C := h.below (Below.refl _ _).drew
/-- A row that grew by one, put back into its cell. -/
theorem push (h : Web w B g n R O C) {w1 : World} {i : Nat} (hi : isRow i) {x : Int} {g' cap H : Nat} (hg : w.grownBy w1 (C i).ownBlock) (hH : w.heap.size = H)
    (ho : w1.ownsRow B 3 1 (.slice (some ⟨g', 0, none⟩) ((R i).length + 1) cap) ((R i).length + 1) ((R i).map (Value.int .i64) ++ [.int .i64 x])) (hat : (C i).ownBlock = some g' ∨ g' = H)
    {R' : Nat → List Int} (hR : R' i = R i ++ [x]) (hR2 : ∀ j, isRow j → j ≠ i → R' j = R j) :
    Web (w1.setCell ⟨g, i, none⟩ (.slice (some ⟨g', 0, none⟩) ((R i).length + 1) cap)) B g n R' O (fun j => if j = i then .slice (some ⟨g', 0, none⟩) ((R i).length + 1) cap else C j) := by
  have hgl := h.row.lt
  have hng : g' ≠ g := by
    rcases hat with e | e
    · intro e2; subst e2; exact h.ne i hi e
    · omega
  have hr1 : w1.rowIs g 118 196 C := h.row.of_block (hg.block g hgl (fun e => h.ne i hi e.symm))
  have hl : (R' i).length = (R i).length + 1 := by rw [hR, List.length_append]; rfl
  refine ⟨hr1.set i _, h.lo, ?_, fun x hx => ?_, fun j hj => ?_, fun j hj => ?_, fun j k hj hk hjk => ?_⟩
  · show (if 0 = i then _ else C 0) = _
    rw [if_neg (by unfold isRow at hi; omega)]; exact h.c0
  · show (if 66 + x = i then _ else C (66 + x)) = _
    rw [if_neg (by unfold isRow at hi; omega)]; exact h.cO x hx
  · show World.ownsRow _ _ _ _ (if j = i then _ else C j) _ _
    by_cases e : j = i
    · subst e
      rw [if_pos rfl, hl, hR, List.map_append]
      exact ownsRow_setCell_other ho (by show some g' ≠ some g; simpa using hng) _
    · rw [if_neg e, hR2 j hj e]
      have h1 := Own.Apart.kept (h.ap j i hj hi e) (h.own j hj) hg
      exact ownsRow_setCell_other h1 (h.ne j hj) _
  · show (if j = i then _ else C j).ownBlock ≠ _
    by_cases e : j = i
    · rw [if_pos e]; show some g' ≠ some g; simpa using hng
    · rw [if_neg e]; exact h.ne j hj
  · show Own.Apart (if j = i then _ else C j) (if k = i then _ else C k)
    have lt : ∀ j, isRow j → ∀ q, (C j).ownBlock = some q → q < H := fun j hj q hq => by rw [← hH]; exact ((h.own j hj).lt q hq).2
    by_cases e : j = i
    · subst e
      rw [if_pos rfl, if_neg (fun e => hjk e.symm)]
      exact (h.ap j k hj hk hjk).left hat (lt k hk)
    · rw [if_neg e]
      by_cases e2 : k = i
      · subst e2
        rw [if_pos rfl]
        exact (h.ap j k hj hk hjk).right hat (lt j hj)
      · rw [if_neg e2]; exact h.ap j k hj hk hjk
/-- Another number of open needs. -/
theorem setO (h : Web w B g n R O C) (x : Nat) (hx : x ≤ 64) (v : Int) : Web (w.setCell ⟨g, 66 + x, none⟩ (.int .i64 v)) B g n R (fun y => if y = x then v else O y) (fun j => if j = 66 + x then .int .i64 v else C j) := by
  have nr : ∀ j, isRow j → j ≠ 66 + x := fun j hj e => by unfold isRow at hj; omega
  refine ⟨h.row.set _ _, h.lo, ?_, fun y hy => ?_, fun j hj => ?_, fun j hj => ?_, fun j k hj hk hjk => ?_⟩
  · show (if 0 = 66 + x then _ else C 0) = _
    rw [if_neg (by omega)]; exact h.c0
  · show (if 66 + y = 66 + x then _ else C (66 + y)) = .int .i64 (if y = x then v else O y)
    by_cases e : y = x
    · rw [if_pos (by omega), if_pos e]
    · rw [if_neg (by omega), if_neg e]; exact h.cO y hy
  · show World.ownsRow _ _ _ _ (if j = 66 + x then _ else C j) _ _
    rw [if_neg (nr j hj)]
    exact ownsRow_setCell_other (h.own j hj) (h.ne j hj) _
  · show (if j = 66 + x then _ else C j).ownBlock ≠ _
    rw [if_neg (nr j hj)]; exact h.ne j hj
  · show Own.Apart (if j = 66 + x then _ else C j) (if k = 66 + x then _ else C k)
    rw [if_neg (nr j hj), if_neg (nr k hk)]; exact h.ap j k hj hk hjk
theorem cell (h : Web w B g n R O C) {i : Nat} (hi : i < 196) : w.cell? ⟨g, i, none⟩ = some (C i) := h.row.cell hi
theorem cell0 (h : Web w B g n R O C) : w.cell? ⟨g, 0, none⟩ = some (.int .i64 n) := by rw [h.cell (by decide), h.c0]
theorem congr (h : Web w B g n R O C) {R' : Nat → List Int} {O' : Nat → Int} (hR : ∀ i, isRow i → R' i = R i) (hO : ∀ x, x ≤ 64 → O' x = O x) : Web w B g n R' O' C :=
  ⟨h.row, h.lo, h.c0, fun x hx => by rw [hO x hx]; exact h.cO x hx, fun i hi => by rw [hR i hi]; exact h.own i hi, h.ne, h.ap⟩
end Web
theorem push_step {W1 w2 : World} {B g i gg cap : Nat} {n x : Int} {R : Nat → List Int} {O : Nat → Int} {C : Nat → Value} {o : Obj} {V : Value} (h : Web W1 B g n R O C) (hr : isRow i) (hV : C i = V) (hg : (W1.alloc o).drew.grownBy w2 V.ownBlock)
    (ho : w2.ownsRow B 3 1 (.slice (some ⟨gg, 0, none⟩) ((R i).length + 1) cap) ((R i).length + 1) ((R i).map (Value.int .i64) ++ [.int .i64 x])) (hat : V.ownBlock = some gg ∨ gg = W1.heap.size + 1) :
    ∃ C2, Web (w2.setCell ⟨g, i, none⟩ (.slice (some ⟨gg, 0, none⟩) ((R i).length + 1) cap)) B g n (fun j => if j = i then R j ++ [x] else R j) O C2 ∧ ∀ j, j ≠ i → C2 j = C j := by
  subst hV
  exact ⟨_, ((h.alloc o).drew).push hr (H := W1.heap.size + 1) hg (by simp) ho hat (by rw [if_pos rfl]) (fun j _ hj => by rw [if_neg hj]), fun j hj => by rw [if_neg hj]⟩
theorem push_below {w W1 w2 : World} {V : Value} {m : Nat} {xs : List Value} {o : Obj} (hB : Below w.heap.size w W1) (ho : W1.ownsRow w.heap.size 3 1 V m xs) (hg : (W1.alloc o).drew.grownBy w2 V.ownBlock) : Below w.heap.size w w2 :=
  ((below_al hB o).drew).grown hg (below_al hB o).size (Own.own_block ho (Nat.le_refl _))
theorem push_cell {W1 w2 : World} {V : Value} {G i : Nat} {v : Value} {o : Obj} (hG : G < W1.heap.size) (hc : W1.cell? ⟨G, i, none⟩ = some v) (hg : (W1.alloc o).drew.grownBy w2 V.ownBlock) (hne : V.ownBlock ≠ some G) : w2.cell? ⟨G, i, none⟩ = some v :=
  (hg.cell_far ⟨G, i, none⟩ (by simp; omega) (Ne.symm hne)).trans ((cell_ad _ ⟨G, i, none⟩ hG).trans hc)
theorem push_frozen {W1 w2 : World} {V : Value} {G i : Nat} {o : Obj} (hG : G < W1.heap.size) (hc : W1.frozen? ⟨G, i, none⟩ = false) (hg : (W1.alloc o).drew.grownBy w2 V.ownBlock) (hne : V.ownBlock ≠ some G) : w2.frozen? ⟨G, i, none⟩ = false :=
  (hg.frozen_far ⟨G, i, none⟩ (by simp; omega) (Ne.symm hne)).trans ((frz_al W1 _ ⟨G, i, none⟩ hG).trans hc)
/-- In the middle of a round of `made`. -/
def Mid (w : World) (n : Int) (R : Nat → List Int) (O : Nat → Int) (q G X Y : Nat) (wx : World) : Prop :=
  ∃ C, Web wx w.heap.size w.heap.size n R O C ∧ (isRow q → (C q).ownBlock ≠ some G) ∧ Below w.heap.size w wx ∧ G < wx.heap.size ∧ wx.cell? ⟨G, 0, none⟩ = some (.int .i64 (X : Int)) ∧ wx.cell? ⟨G, 1, none⟩ = some (.int .i64 (Y : Int))
theorem mid_step {w W1 w2 : World} {i gg cap q G X Y : Nat} {n x : Int} {R : Nat → List Int} {O : Nat → Int} {C : Nat → Value} {o : Obj} {V : Value} (h : Web W1 w.heap.size w.heap.size n R O C) (hr : isRow i) (hV : C i = V) (hq : q ≠ i) (hCq : isRow q → (C q).ownBlock ≠ some G) (hB : Below w.heap.size w W1)
    (ho1 : W1.ownsRow w.heap.size 3 1 V (R i).length ((R i).map (Value.int .i64)))
    (hg : (W1.alloc o).drew.grownBy w2 V.ownBlock)
    (ho : w2.ownsRow w.heap.size 3 1 (.slice (some ⟨gg, 0, none⟩) ((R i).length + 1) cap) ((R i).length + 1) ((R i).map (Value.int .i64) ++ [.int .i64 x])) (hat : V.ownBlock = some gg ∨ gg = W1.heap.size + 1)
    (hG : G < W1.heap.size) (hne : w.heap.size ≠ G) (k0 : w2.cell? ⟨G, 0, none⟩ = some (.int .i64 (X : Int))) (k1 : w2.cell? ⟨G, 1, none⟩ = some (.int .i64 (Y : Int))) :
    Mid w n (fun j => if j = i then R j ++ [x] else R j) O q G X Y (w2.setCell ⟨w.heap.size, i, none⟩ (.slice (some ⟨gg, 0, none⟩) ((R i).length + 1) cap)) := by
  obtain ⟨C2, h1, h2⟩ := push_step h hr hV hg ho hat
  refine ⟨C2, h1, fun hqr => by rw [h2 q hq]; exact hCq hqr, (push_below hB ho1 hg).setCell (Nat.le_refl _) _, ?_, ?_, ?_⟩
  · have := hg.size
    simp at this
    simp [World.setCell]
    omega
  · exact (World.cell?_setCell_other _ _ _ _ (by intro e; cases e; exact hne rfl)).trans k0
  · exact (World.cell?_setCell_other _ _ _ _ (by intro e; cases e; exact hne rfl)).trans k1
theorem wrapEq (x : Int) : IntKind.i64.wrap x = wrap64 x := by rw [IntKind.wrap_i64]; unfold wrap64; omega
/-- A web of no needs, as cells. -/
def zF (n : Int) (i : Nat) : Value := if i = 0 then .int .i64 n else if 66 ≤ i ∧ i ≤ 130 then .int .i64 0 else .slice none 0 0
def zW (n : Int) : Array Value := ((List.range 196).map (zF n)).toArray
theorem zero48 (w : World) : (zeroValue 118).run Try.prog w = .ok (.agg (zW 0)) w := by kernel_rfl
theorem zW_set (n : Int) : (zW 0).setIfInBounds 0 (.int .i64 n) = zW n := by kernel_rfl
theorem zW_size (n : Int) : (zW n).size = 196 := by simp [zW]
/-- What a node needs; by whom it is needed. -/
def ndsF (E : List (Int × Int)) (x : Int) : List Int := (E.filter fun e => e.1 == x).map (·.2)
def usrF (E : List (Int × Int)) (x : Int) : List Int := (E.filter fun e => e.2 == x).map (·.1)
def RF (E : List (Int × Int)) (i : Nat) : List Int := if i ≤ 65 then ndsF E ((i : Int) - 1) else usrF E ((i : Int) - 131)
def OF (E : List (Int × Int)) (x : Nat) : Int := ((ndsF E (x : Int)).length : Int)
theorem ndsF_snoc (E : List (Int × Int)) (p q x : Int) : ndsF (E ++ [(p, q)]) x = if p = x then ndsF E x ++ [q] else ndsF E x := by
  unfold ndsF
  rw [List.filter_append, List.map_append]
  by_cases h : p = x <;> simp [h]
theorem usrF_snoc (E : List (Int × Int)) (p q x : Int) : usrF (E ++ [(p, q)]) x = if q = x then usrF E x ++ [p] else usrF E x := by
  unfold usrF
  rw [List.filter_append, List.map_append]
  by_cases h : q = x <;> simp [h]
theorem ndsF_len (E : List (Int × Int)) (x : Int) : (ndsF E x).length ≤ E.length := by
  unfold ndsF; rw [List.length_map]; exact List.length_filter_le _ _
theorem usrF_len (E : List (Int × Int)) (x : Int) : (usrF E x).length ≤ E.length := by
  unfold usrF; rw [List.length_map]; exact List.length_filter_le _ _
theorem RF_len (E : List (Int × Int)) (i : Nat) : (RF E i).length ≤ E.length := by
  unfold RF; split
  · exact ndsF_len _ _
  · exact usrF_len _ _
theorem web_new (n : Int) (w : World) : Web (w.alloc (.cells (zW n) 118)) w.heap.size w.heap.size n (RF []) (OF []) (zF n) := by
  have hz : ∀ i, isRow i → zF n i = .slice none 0 0 := fun i hi => by
    unfold isRow at hi; unfold zF
    rw [if_neg (by omega), if_neg (by omega)]
  have hr : ∀ i, RF [] i = [] := fun i => by unfold RF; split <;> rfl
  refine ⟨⟨zW n, ?_, zW_size n, fun i hi => by simp [zW, hi]⟩, Nat.le_refl _, rfl, fun x hx => ?_, fun i hi => ?_, fun i hi => ?_, fun i j hi hj hij => ?_⟩
  · exact heap_alloc_new w _
  · unfold zF; rw [if_neg (by omega), if_pos (by omega)]; rfl
  · rw [hz i hi, hr i]; exact World.ownsRow_nil _ _ _ _
  · rw [hz i hi]; simp [Value.ownBlock]
  · rw [hz i hi]; exact .inl rfl
theorem RF_step (E : List (Int × Int)) (X Y : Nat) (hX : X ≤ 64) (hY : Y ≤ 64) (i : Nat) (_hi : isRow i) :
    RF (E ++ [((X : Int), (Y : Int))]) i = (if i = 131 + Y then (if i = 1 + X then RF E i ++ [(Y : Int)] else RF E i) ++ [(X : Int)] else (if i = 1 + X then RF E i ++ [(Y : Int)] else RF E i)) := by
  unfold RF
  by_cases h : i ≤ 65
  · rw [if_pos h, if_pos h, if_neg (show ¬ i = 131 + Y by omega), ndsF_snoc]
    by_cases e : i = 1 + X
    · rw [if_pos e, if_pos (by omega)]
    · rw [if_neg e, if_neg (by omega)]
  · rw [if_neg h, if_neg h, if_neg (show ¬ i = 1 + X by omega), usrF_snoc]
    by_cases e : i = 131 + Y
    · rw [if_pos e, if_pos (by omega)]
    · rw [if_neg e, if_neg (by omega)]
theorem OF_step (E : List (Int × Int)) (X Y : Nat) (x : Nat) : OF (E ++ [((X : Int), (Y : Int))]) x = if x = X then OF E X + 1 else OF E x := by
  unfold OF
  rw [ndsF_snoc]
  by_cases e : x = X
  · subst e
    rw [if_pos rfl, if_pos rfl, List.length_append]; simp
  · rw [if_neg (by omega), if_neg e]
/-- Whether nodes and needs may be. -/
def Good (n : Int) (l : List (Int × Int)) : Prop := 0 ≤ n ∧ n ≤ 64 ∧ l.length ≤ 256 ∧ ∀ j, j < l.length → inW (l.getD j (0, 0)).1 n = true ∧ inW (l.getD j (0, 0)).2 n = true
def MadeOut (n : Int) (l : List (Int × Int)) (w : World) (e : Ending) (w' : World) : Prop :=
  Below w.heap.size w w' ∧ ((Good n l ∧ e = .returned (.pointer (some ⟨w.heap.size, 0, none⟩)) ∧ ∃ C, Web w' w.heap.size w.heap.size n (RF l) (OF l) C) ∨ (¬ Good n l ∧ e = .returned (.pointer none)))
theorem take_snoc (l : List (Int × Int)) (k : Nat) (h : k < l.length) : l.take (k + 1) = l.take k ++ [((l.getD k (0, 0)).1, (l.getD k (0, 0)).2)] := by
  rw [List.take_succ_eq_append_getElem h, List.getD_eq_getElem?_getD, List.getElem?_eq_getElem h]; rfl
theorem info3 : (Try.prog.info? 3).map (fun i => (i.zero, i.size, i.bytes)) = some (some (.int .i64 0), 1, 8) := by kernel_rfl
theorem info_parts {P : Program} {e : TypeId} {z : Value} {n b : Nat} (h : (P.info? e).map (fun i => (i.zero, i.size, i.bytes)) = some (some z, n, b)) : ∃ i, P.info? e = some i ∧ i.zero = some z ∧ i.size = n ∧ i.bytes = b := by
  cases hi : P.info? e with
  | none => rw [hi] at h; cases h
  | some i => rw [hi] at h; simp at h; exact ⟨i, rfl, h.1, h.2.1, h.2.2⟩
end Gra
end Go.Proofs.Ytiabnjmblcogmaa
end
