/- Texts put together: QuoPa, QuoPb. -/
import Derived.Test.YtiabnjmblcogmaaM24
import Derived.Test.YtiabnjmblcogmaaM25
set_option linter.all false
section
namespace Go.Proofs.Ytiabnjmblcogmaa
open Go.RowKit
namespace Quo
open Cat (CatIn BayIn chkC nob noy makerV fst fst_none)
open Rec (BlueIn Stk)
/-- The jobs of a plan. -/
structure PJ (p : PC) (L : List JobIn) : Prop where
  blues : L.map (·.blue) = (List.range p.n).filter p.run
  waits : ∀ j, j ∈ L → (∀ x, x ∈ j.waits → 0 ≤ x ∧ x < (p.n : Int)) ∧ ∀ x : Nat, x < p.n → ((x : Int) ∈ j.waits ↔ p.wt j.blue x = true)
structure PA (p : PC) (L : List JobIn) (S : PS) (b : List Bool) (T G : List JobIn) : Prop where
  td : T = L.filter fun j => !isB S j.blue
  ovb : ∀ x, x < p.n → b.getD x false = isO S x
  bl : b.length = p.n
  nd : (G.map (·.blue)).Nodup
  mem : ∀ k, k ∈ G.map (·.blue) ↔ k < p.n ∧ isD S k = true
theorem PJ.mem {p : PC} {L : List JobIn} (h : PJ p L) {j : JobIn} (hj : j ∈ L) : j.blue < p.n ∧ p.run j.blue = true := by
  have : j.blue ∈ L.map (·.blue) := List.mem_map.2 ⟨j, hj, rfl⟩
  rw [h.blues, List.mem_filter, List.mem_range] at this
  exact this
theorem PJ.nodup {p : PC} {L : List JobIn} (h : PJ p L) : (L.map (·.blue)).Nodup := by
  rw [h.blues]
  exact List.nodup_range.sublist List.filter_sublist
theorem PA.start {p : PC} {L : List JobIn} : PA p L (ps0 p.n) (List.replicate p.n false) L [] := by
  refine ⟨?_, fun x hx => ?_, by simp, List.nodup_nil, fun k => ?_⟩
  · symm
    rw [List.filter_eq_self]
    intro j _
    rw [isB_ps0]; rfl
  · rw [getD_rep]
    unfold isO
    rw [isB_ps0]; rfl
  · unfold isD
    rw [isB_ps0]
    simp
theorem PA.blues {p : PC} {L : List JobIn} {S : PS} {b : List Bool} {T G : List JobIn} (h : PA p L S b T G) (hL : PJ p L) : T.map (·.blue) = (List.range p.n).filter (isT p S) := by
  have e := List.filter_map (f := fun j : JobIn => j.blue) (l := L) (p := fun k => !isB S k)
  rw [h.td]
  show ((L.filter ((fun k => !isB S k) ∘ fun j : JobIn => j.blue)).map fun j : JobIn => j.blue) = _
  rw [← e, hL.blues, List.filter_filter]
  apply List.filter_congr
  intro x _
  unfold isT
  rw [Bool.and_comm]
theorem PA.left {p : PC} {L : List JobIn} {S : PS} {b : List Bool} {T G : List JobIn} (h : PA p L S b T G) (hL : PJ p L) : left p S = T.length := by
  have := congrArg List.length (h.blues hL)
  rw [List.length_map] at this
  exact this.symm
theorem perm_len {a c : List Nat} (ha : a.Nodup) (hc : c.Nodup) (h : ∀ x, x ∈ a ↔ x ∈ c) : a.length = c.length := ((List.perm_ext_iff_of_nodup ha hc).2 h).length_eq
theorem PA.doing {p : PC} {L : List JobIn} {S : PS} {b : List Bool} {T G : List JobIn} (h : PA p L S b T G) : doing p S = G.length := by
  have := perm_len h.nd (List.nodup_range.sublist (List.filter_sublist (p := isD S) (l := List.range p.n))) fun x => by rw [h.mem, List.mem_filter, List.mem_range]
  rw [List.length_map] at this
  exact this.symm
theorem PA.mem_todo {p : PC} {L : List JobIn} {S : PS} {b : List Bool} {T G : List JobIn} (h : PA p L S b T G) {j : JobIn} (hj : j ∈ T) : j ∈ L ∧ isB S j.blue = false := by
  rw [h.td, List.mem_filter] at hj
  exact ⟨hj.1, by simpa using hj.2⟩
/-- A job may begin where all is over for which it waits. -/
theorem PA.ready {p : PC} {L : List JobIn} {S : PS} {b : List Bool} {T G : List JobIn} (h : PA p L S b T G) (hL : PJ p L) {j : JobIn} (hj : j ∈ T) : readyJ b j = isR p S j.blue := by
  obtain ⟨hjL, hjB⟩ := h.mem_todo hj
  obtain ⟨hjn, hjr⟩ := hL.mem hjL
  obtain ⟨hw1, hw2⟩ := hL.waits j hjL
  have hT : isT p S j.blue = true := by unfold isT; rw [hjr, hjB]; rfl
  unfold isR
  rw [hT, Bool.true_and]
  unfold readyJ
  cases ha : j.waits.any (notOver b) with
  | true =>
    obtain ⟨x, hx, h2⟩ := List.any_eq_true.1 ha
    obtain ⟨x0, x1⟩ := hw1 x hx
    obtain ⟨m, rfl⟩ : ∃ m : Nat, x = (m : Int) := ⟨x.toNat, by omega⟩
    have hm : m < p.n := by omega
    unfold notOver at h2
    rw [Int.toNat_natCast, h.ovb m hm] at h2
    have hwt := (hw2 m hm).1 hx
    rw [range_no hm (by rw [hwt]; simpa using h2)]
    rfl
  | false =>
    rw [range_all fun m hm => ?_]
    · rfl
    · cases hwt : p.wt j.blue m with
      | false => rfl
      | true =>
        have hx := (hw2 m hm).2 hwt
        rw [List.any_eq_false] at ha
        have h2 := ha _ hx
        unfold notOver at h2
        rw [Int.toNat_natCast, h.ovb m hm] at h2
        simpa using h2
theorem find_filter {α : Type} (P Q : α → Bool) (l : List α) : (l.filter P).find? Q = l.find? fun x => P x && Q x := by
  induction l with
  | nil => rfl
  | cons a l ih =>
    rw [List.filter_cons, List.find?_cons]
    cases hp : P a with
    | false => rw [if_neg (by simp), Bool.false_and]; exact ih
    | true =>
      rw [if_pos rfl, List.find?_cons, Bool.true_and]
      cases Q a with
      | true => rfl
      | false => exact ih
theorem nextR_todo {p : PC} {S : PS} : nextR p S = ((List.range p.n).filter (isT p S)).find? (isR p S) := by
  rw [find_filter]
  unfold nextR
  congr 1
  funext x
  cases h : isT p S x with
  | true => rw [Bool.true_and]
  | false => unfold isR; rw [h]; rfl
theorem find_none {l : List Nat} {P : Nat → Bool} (h : ∀ i, i < l.length → P (l.getD i 0) = false) : l.find? P = none := by
  rw [List.find?_eq_none]
  intro x hx
  obtain ⟨i, hi, rfl⟩ := List.getElem_of_mem hx
  have := h i hi
  rw [List.getD_eq_getElem?_getD, List.getElem?_eq_getElem hi] at this
  simpa using this
theorem find_some {l : List Nat} {P : Nat → Bool} {k : Nat} (hk : k < l.length) (h : P (l.getD k 0) = true) (h2 : ∀ i, i < k → P (l.getD i 0) = false) : l.find? P = some (l.getD k 0) := by
  induction l generalizing k with
  | nil => simp at hk
  | cons a l ih =>
    rw [List.find?_cons]
    cases k with
    | zero =>
      have : P a = true := h
      rw [this]; rfl
    | succ k =>
      have : P a = false := h2 0 (by omega)
      rw [this]
      exact ih (by simpa using hk) h fun i hi => h2 (i + 1) (by omega)
theorem blue_get (T : List JobIn) (i : Nat) (hi : i < T.length) : (T.map (·.blue)).getD i 0 = (T.getD i noj).blue := by
  rw [List.getD_eq_getElem?_getD, List.getElem?_map, List.getD_eq_getElem?_getD, List.getElem?_eq_getElem hi]
  rfl
theorem PA.next_none {p : PC} {L : List JobIn} {S : PS} {b : List Bool} {T G : List JobIn} (h : PA p L S b T G) (hL : PJ p L) (hf : fst (fun i => readyJ b (T.getD i noj)) T.length = -1) : nextR p S = none := by
  rw [nextR_todo, ← h.blues hL]
  apply find_none
  intro i hi
  rw [List.length_map] at hi
  rw [blue_get T i hi, ← h.ready hL (getD_mem' hi noj)]
  exact (fst_none _ _).1 hf i hi
theorem fst_hit (P : Nat → Bool) : ∀ n, fst P n ≠ -1 → ∃ k, k < n ∧ fst P n = (k : Int) ∧ P k = true ∧ ∀ j, j < k → P j = false
  | 0, h => absurd rfl h
  | n + 1, h => by
    rw [fst] at h ⊢
    by_cases h0 : fst P n = -1
    · rw [if_pos h0] at h ⊢
      cases hp : P n with
      | true => rw [if_pos rfl]; exact ⟨n, by omega, rfl, hp, (fst_none P n).1 h0⟩
      | false => rw [hp, if_neg (by simp)] at h; exact absurd rfl h
    · rw [if_neg h0]
      obtain ⟨k, hk, h1, h2, h3⟩ := fst_hit P n h0
      exact ⟨k, by omega, h1, h2, h3⟩
theorem PA.next_some {p : PC} {L : List JobIn} {S : PS} {b : List Bool} {T G : List JobIn} (h : PA p L S b T G) (hL : PJ p L) (hf : fst (fun i => readyJ b (T.getD i noj)) T.length ≠ -1) : ∃ i, i < T.length ∧ fst (fun i => readyJ b (T.getD i noj)) T.length = (i : Int) ∧ nextR p S = some (T.getD i noj).blue := by
  obtain ⟨i, hi, h1, h2, h3⟩ := fst_hit _ _ hf
  refine ⟨i, hi, h1, ?_⟩
  rw [nextR_todo, ← h.blues hL]
  rw [find_some (k := i) (by rw [List.length_map]; exact hi)]
  · rw [blue_get T i hi]
  · rw [blue_get T i hi, ← h.ready hL (getD_mem' hi noj)]; exact h2
  · intro j hj
    rw [blue_get T j (by omega), ← h.ready hL (getD_mem' (by omega) noj)]
    exact h3 j hj
theorem nodup_inj {L : List JobIn} (h : (L.map (·.blue)).Nodup) {a c : JobIn} (ha : a ∈ L) (hc : c ∈ L) (e : a.blue = c.blue) : a = c := by
  induction L with
  | nil => cases ha
  | cons x L ih =>
    rw [List.map_cons, List.nodup_cons] at h
    rcases List.mem_cons.1 ha with ea | ha1
    · rcases List.mem_cons.1 hc with ec | hc1
      · rw [ea, ec]
      · exact absurd ((List.mem_map (f := fun j : JobIn => j.blue)).2 ⟨c, hc1, by rw [← ea]; exact e.symm⟩) h.1
    · rcases List.mem_cons.1 hc with ec | hc1
      · exact absurd ((List.mem_map (f := fun j : JobIn => j.blue)).2 ⟨a, ha1, by rw [← ec]; exact e⟩) h.1
      · exact ih h.2 ha1 hc1
theorem eraseIdx_filter {T : List JobIn} (h : (T.map (·.blue)).Nodup) {i : Nat} (hi : i < T.length) : T.eraseIdx i = T.filter fun j => !decide (j.blue = (T.getD i noj).blue) := by
  induction T generalizing i with
  | nil => simp at hi
  | cons a T ih =>
    rw [List.map_cons, List.nodup_cons] at h
    cases i with
    | zero =>
      show T = _
      rw [List.filter_cons]
      have e : (a :: T).getD 0 noj = a := rfl
      rw [e, decide_eq_true rfl, if_neg (by simp)]
      symm
      rw [List.filter_eq_self]
      intro j hj
      have : ¬ j.blue = a.blue := fun e => h.1 (List.mem_map.2 ⟨j, hj, e⟩)
      simp [this]
    | succ i =>
      have hi' : i < T.length := by simpa using hi
      have e : (a :: T).getD (i + 1) noj = T.getD i noj := rfl
      have hne : ¬ a.blue = (T.getD i noj).blue := fun e => h.1 (by rw [e]; exact List.mem_map.2 ⟨_, getD_mem' hi' noj, rfl⟩)
      show a :: T.eraseIdx i = _
      rw [List.filter_cons, e, if_pos (by rw [decide_eq_false hne]; rfl), ih h.2 hi']
theorem isO_begin {p : PC} {S : PS} {k x : Nat} (hb : k < S.beg.length) (ho : k < S.out.length) (hn : isB S k = false) (ht : 1 ≤ p.tm k) : isO (begin1 p S k) x = isO S x := by
  unfold isO endOf
  rw [isB_begin hb, out_begin ho]
  by_cases h : x = k
  · rw [if_pos h, if_pos h, h, hn, Bool.false_and, Bool.true_and]
    exact decide_eq_false (by show ¬ (S.now + p.tm k ≤ S.now); omega)
  · rw [if_neg h, if_neg h]; rfl
theorem PA.begin {p : PC} {B : Int} {L : List JobIn} {S : PS} {b : List Bool} {T G : List JobIn} (h : PA p L S b T G) (hL : PJ p L) (hW : PW p B S) (hT : PT p) {i : Nat} (hi : i < T.length) : PA p L (begin1 p S (T.getD i noj).blue) b (T.eraseIdx i) (G ++ [T.getD i noj]) := by
  obtain ⟨hjL, hjB⟩ := h.mem_todo (getD_mem' hi noj)
  obtain ⟨hkn, hrun⟩ := hL.mem hjL
  generalize hj : T.getD i noj = j at *
  have hb : j.blue < S.beg.length := by rw [hW.lb]; exact hkn
  have ho : j.blue < S.out.length := by rw [hW.lo]; exact hkn
  have htp := hT.pos _ hrun
  refine ⟨?_, fun x hx => ?_, h.bl, ?_, fun k => ?_⟩
  · rw [eraseIdx_filter (by rw [h.blues hL]; exact List.nodup_range.sublist List.filter_sublist) hi, hj, h.td, List.filter_filter]
    apply List.filter_congr
    intro x _
    rw [isB_begin hb]
    by_cases e : x.blue = j.blue
    · rw [if_pos e, decide_eq_true e]; rfl
    · rw [if_neg e, decide_eq_false e]; simp
  · rw [isO_begin hb ho hjB htp]; exact h.ovb x hx
  · rw [List.map_append, List.nodup_append]
    refine ⟨h.nd, by simp, fun x hx y hy e => ?_⟩
    simp at hy
    rw [e, hy] at hx
    have := ((h.mem _).1 hx).2
    unfold isD at this
    rw [hjB] at this
    cases this
  · rw [List.map_append, List.mem_append, h.mem]
    by_cases e : k = j.blue
    · rw [e]
      refine ⟨fun _ => ⟨hkn, ?_⟩, fun _ => .inr (by simp)⟩
      rw [isD_begin hb ho, if_pos rfl]
      exact decide_eq_true (by omega)
    · rw [isD_begin hb ho, if_neg e]
      constructor
      · rintro (h1 | h1)
        · exact h1
        · simp at h1; exact absurd h1 e
      · exact fun h1 => .inl h1
/-- What is told of being over. -/
theorem ovTo_get (b : List Bool) (G : List JobIn) (D : JobIn → Bool) (hb : ∀ i, i < G.length → (G.getD i noj).blue < b.length) (hnd : (G.map (·.blue)).Nodup) (x : Nat) : ∀ i, i ≤ G.length → (ovTo b G D i).length = b.length ∧ ((∀ j, j ∈ G.take i → j.blue = x → (ovTo b G D i).getD x false = D j) ∧ (x ∉ (G.take i).map (·.blue) → (ovTo b G D i).getD x false = b.getD x false))
  | 0, _ => ⟨rfl, fun j hj => by simp at hj, fun _ => rfl⟩
  | i + 1, h => by
    obtain ⟨h0, h1, h2⟩ := ovTo_get b G D hb hnd x i (by omega)
    have e : G.getD i noj = G[i] := by rw [List.getD_eq_getElem?_getD, List.getElem?_eq_getElem (by omega)]; rfl
    have hbi := hb i (by omega)
    rw [e] at hbi
    rw [ovTo, e]
    refine ⟨by rw [List.length_set]; exact h0, fun j hj hx => ?_, fun hx => ?_⟩
    · rw [getD_set _ _ _ _ _ (by rw [h0]; exact hbi)]
      rw [List.take_succ_eq_append_getElem (by omega), List.mem_append] at hj
      by_cases he : x = G[i].blue
      · rw [if_pos he]
        have hjG : j ∈ G := by
          rcases hj with hj | hj
          · exact List.mem_of_mem_take hj
          · simp at hj; rw [hj]; exact List.getElem_mem _
        rw [nodup_inj hnd hjG (List.getElem_mem _) (hx.trans he)]
      · rw [if_neg he]
        rcases hj with hj | hj
        · exact h1 j hj hx
        · simp at hj
          rw [hj] at hx
          exact absurd hx.symm he
    · rw [List.take_succ_eq_append_getElem (by omega), List.map_append, List.mem_append] at hx
      have he : ¬ x = G[i].blue := fun e => hx (.inr (by simp [e]))
      rw [getD_set _ _ _ _ _ (by rw [h0]; exact hbi), if_neg he]
      exact h2 fun h3 => hx (.inl h3)
theorem PA.later {p : PC} {B : Int} {L : List JobIn} {S : PS} {b : List Bool} {T G : List JobIn} (h : PA p L S b T G) (hW : PW p B S) {q : Nat} (hq : q < G.length) (hmin : ∀ j, j < G.length → endJ S.out (G.getD q noj) ≤ endJ S.out (G.getD j noj)) : thenTo S p.n = endJ S.out (G.getD q noj) ∧ thenTo S p.n ≠ 0 ∧ PA p L (later p S) (ovTo b G (overD S.out (thenTo S p.n)) G.length) T (kpJ (overD S.out (thenTo S p.n)) G) := by
  have hE : ∀ j : JobIn, endJ S.out j = endOf S j.blue := fun j => rfl
  have hqm : (G.getD q noj).blue ∈ G.map (·.blue) := List.mem_map.2 ⟨_, getD_mem' hq noj, rfl⟩
  obtain ⟨hqn, hqd⟩ := (h.mem _).1 hqm
  have hnow := hW.now0
  rcases thenTo_ok hnow p.n with ⟨h1, h2⟩ | ⟨h1, ⟨k, hk, hk2, hk3⟩, h3⟩
  · rw [h2 _ hqn] at hqd; cases hqd
  · have hkm := (h.mem k).2 ⟨hk, hk2⟩
    obtain ⟨j, hj, hjk⟩ := List.mem_map.1 hkm
    obtain ⟨i, hi, rfl⟩ := List.getElem_of_mem hj
    have e1 := hmin i hi
    have eg : G.getD i noj = G[i] := by rw [List.getD_eq_getElem?_getD, List.getElem?_eq_getElem hi]; rfl
    rw [hE, hE, eg, hjk, hk3] at e1
    have e2 := h3 _ hqn hqd
    have et : thenTo S p.n = endOf S (G.getD q noj).blue := by omega
    refine ⟨et, by omega, h.td, fun x hx => ?_, ?_, ?_, fun x => ?_⟩
    · have hbl : ∀ i, i < G.length → (G.getD i noj).blue < b.length := fun i hi => by
        rw [h.bl]
        exact ((h.mem _).1 (List.mem_map.2 ⟨_, getD_mem' hi noj, rfl⟩)).1
      obtain ⟨-, g1, g2⟩ := ovTo_get b G (overD S.out (thenTo S p.n)) hbl h.nd x G.length (Nat.le_refl _)
      rw [List.take_of_length_le (Nat.le_refl _)] at g1 g2
      have eO : isO (Quo.later p S) x = (isB S x && decide (endOf S x ≤ thenTo S p.n)) := rfl
      rw [eO]
      by_cases hm : x ∈ G.map (·.blue)
      · obtain ⟨j, hj, hjx⟩ := List.mem_map.1 hm
        rw [g1 j hj hjx]
        have hd := ((h.mem x).1 hm).2
        rw [(isD_lt hd).1, Bool.true_and]
        unfold overD
        rw [hE, hjx]
      · rw [g2 hm, h.ovb x hx]
        have hd : isD S x = false := by
          cases hd : isD S x with
          | false => rfl
          | true => exact absurd ((h.mem x).2 ⟨hx, hd⟩) hm
        unfold isO
        unfold isD at hd
        cases hb : isB S x with
        | false => rfl
        | true =>
          rw [hb, Bool.true_and, decide_eq_false_iff_not] at hd
          rw [Bool.true_and, Bool.true_and, decide_eq_true (by omega), decide_eq_true (by omega)]
    · have hbl : ∀ i, i < G.length → (G.getD i noj).blue < b.length := fun i hi => by
        rw [h.bl]
        exact ((h.mem _).1 (List.mem_map.2 ⟨_, getD_mem' hi noj, rfl⟩)).1
      rw [(ovTo_get b G (overD S.out (thenTo S p.n)) hbl h.nd 0 G.length (Nat.le_refl _)).1]
      exact h.bl
    · exact h.nd.sublist (List.filter_sublist.map _)
    · have eD : isD (Quo.later p S) x = (isB S x && decide (thenTo S p.n < endOf S x)) := rfl
      rw [eD]
      constructor
      · intro hx
        obtain ⟨j, hj, hjx⟩ := List.mem_map.1 hx
        unfold kpJ at hj
        rw [List.mem_filter] at hj
        obtain ⟨h4, h5⟩ := (h.mem x).1 (List.mem_map.2 ⟨j, hj.1, hjx⟩)
        refine ⟨h4, ?_⟩
        rw [(isD_lt h5).1, Bool.true_and]
        have h6 := hj.2
        unfold overD at h6
        rw [hE, hjx] at h6
        simp at h6
        exact decide_eq_true h6
      · rintro ⟨hx, h4⟩
        rw [Bool.and_eq_true, decide_eq_true_eq] at h4
        have hd : isD S x = true := by unfold isD; rw [h4.1, Bool.true_and]; exact decide_eq_true (by omega)
        obtain ⟨j, hj, hjx⟩ := List.mem_map.1 ((h.mem x).2 ⟨hx, hd⟩)
        refine List.mem_map.2 ⟨j, ?_, hjx⟩
        unfold kpJ
        rw [List.mem_filter]
        refine ⟨hj, ?_⟩
        unfold overD
        rw [hE, hjx, decide_eq_false (by omega)]
        rfl
end Quo
end Go.Proofs.Ytiabnjmblcogmaa
end
section
namespace Go.Proofs.Ytiabnjmblcogmaa
open Go.RowKit
namespace Quo
open Rec (Stk stkVals)
open Pen (below2 below_al below_dN)
theorem plan_adv {p : PC} {f : Nat} {S : PS} {R : Option (List Stk)} (h : planTo p (f + 1) S = R) (hf : 0 < f) (hn : left p S = 0 ∨ nextR p S = none ∨ ¬ (doing p S : Int) < p.sl) (ht : thenTo S p.n ≠ 0) : planTo p f (later p S) = R := by
  rw [planTo] at h
  by_cases hl : left p S = 0
  · rw [if_pos hl] at h
    obtain ⟨f', rfl⟩ : ∃ f', f = f' + 1 := ⟨f - 1, by omega⟩
    rw [planTo, if_pos (show left p (later p S) = 0 from hl)]
    exact h
  · rw [if_neg hl] at h
    cases hx : nextR p S with
    | none => rw [hx] at h; dsimp only at h; rw [if_neg ht] at h; exact h
    | some k =>
      rw [hx] at h
      dsimp only at h
      rcases hn with h1 | h1 | h1
      · exact absurd h1 hl
      · rw [hx] at h1; cases h1
      · rw [if_neg h1, if_neg ht] at h; exact h
theorem plan_beg {p : PC} {f : Nat} {S : PS} {R : Option (List Stk)} (h : planTo p (f + 1) S = R) (hl : left p S ≠ 0) {k : Nat} (hn : nextR p S = some k) (hd : (doing p S : Int) < p.sl) : planTo p f (begin1 p S k) = R := by
  rw [planTo, if_neg hl, hn] at h
  dsimp only at h
  rw [if_pos hd] at h
  exact h
theorem plan_no {p : PC} {f : Nat} {S : PS} {R : Option (List Stk)} (h : planTo p (f + 1) S = R) (hl : left p S ≠ 0) (hn : nextR p S = none) (ht : thenTo S p.n = 0) : R = none := by
  rw [planTo, if_neg hl, hn] at h
  dsimp only at h
  rw [if_pos ht] at h
  exact h.symm
theorem plan_out {p : PC} {f : Nat} {S : PS} {R : Option (List Stk)} (h : planTo p (f + 1) S = R) (hl : left p S = 0) : R = some S.out := by
  rw [planTo, if_pos hl] at h
  exact h.symm
/-- What lies while the program plans. -/
structure PX (w1 : World) (go gx gb gv gn B0 n : Nat) (o : List Stk) (now : Int) (b : List Bool) (T G : List JobIn) (vT vD : Value) (W : World) : Prop where
  fr : Below w1.heap.size w1 W
  ov : OV gx gn gv go gb go n o now b W
  td : W.ownsRow B0 62 3 vT T.length (jobVals T)
  dg : W.ownsRow B0 62 3 vD G.length (jobVals G)
  nT : ∀ k, vT.ownBlock = some k → k ≠ gn ∧ vD.ownBlock ≠ some k
  nD : ∀ k, vD.ownBlock = some k → k ≠ gn
  fz : W.frozen? ⟨gn, 0, none⟩ = false
/-- Where the rows lie. -/
structure PLay (w1 : World) (go gx gb gv gn B0 : Nat) : Prop where
  a : w1.heap.size ≤ go ∧ w1.heap.size ≤ gx ∧ w1.heap.size ≤ gb ∧ w1.heap.size ≤ gv ∧ w1.heap.size ≤ B0
  b : go < B0 ∧ gx < B0 ∧ gb < B0 ∧ gv < B0 ∧ B0 ≤ gn
  c : go ≠ gx ∧ go ≠ gb ∧ go ≠ gv ∧ gx ≠ gb ∧ gx ≠ gv ∧ gb ≠ gv
section
variable {w1 W W' : World} {go gx gb gv gn B0 n : Nat} {o : List Stk} {now : Int} {b : List Bool} {T G : List JobIn} {vT vD : Value}
theorem grw_of_below {w w' : World} (h : Below w.heap.size w w') (g : Option Nat) : w.grownBy w' g := ⟨h.os, h.tape, h.output, h.size, fun k hk _ => h.block k hk⟩
theorem fr_grown {g : Nat} (h : Below w1.heap.size w1 W) (hg : W.grownBy W' (some g)) (hgb : w1.heap.size ≤ g) : Below w1.heap.size w1 W' :=
  ⟨hg.os.trans h.os, hg.tape.trans h.tape, hg.output.trans h.output, Nat.le_trans h.size hg.size, fun k hk => (hg.block k (Nat.lt_of_lt_of_le hk h.size) fun e => by have := Option.some.inj e; omega).trans (h.block k hk)⟩
theorem PX.below (h : PX w1 go gx gb gv gn B0 n o now b T G vT vD W) (hb : Below W.heap.size W W') : PX w1 go gx gb gv gn B0 n o now b T G vT vD W' :=
  ⟨h.fr.trans (hb.mono h.fr.size), h.ov.below hb, Own.own_below h.td hb, Own.own_below h.dg hb, h.nT, h.nD, (hb.frozen (p := ⟨gn, 0, none⟩) h.ov.l1).trans h.fz⟩
theorem ov_setO (h : OV gx gn gv go gb go n o now b W) (hn : go ≠ gx ∧ go ≠ gn ∧ go ≠ gv) {k : Nat} (hk : k < n) (x y : Int) : OV gx gn gv go gb go n (o.set k (x, y)) now b ((W.setCell ⟨go, k * 2, none⟩ (.int .i64 x)).setCell ⟨go, k * 2 + 1, none⟩ (.int .i64 y)) := by
  have hl := h.ol
  have hg := grw_trans (grw_set W go (k * 2) (.int .i64 x)) (grw_set _ go (k * 2 + 1) (.int .i64 y))
  refine ⟨cell_grown hg h.l0 (fun e => hn.1 (Option.some.inj e)) h.c0, cell_grown hg h.l1 (fun e => hn.2.1 (Option.some.inj e)) h.c1, cell_grown hg h.l2 (fun e => hn.2.2 (Option.some.inj e)) h.c2, ?_, h.row.of_block (hg.block _ h.row.lt fun e => h.n3 (Option.some.inj e)), Nat.lt_of_lt_of_le h.l0 hg.size, Nat.lt_of_lt_of_le h.l1 hg.size, Nat.lt_of_lt_of_le h.l2 hg.size, h.n0, h.n1, h.n2, h.n3, by rw [List.length_set]; exact hl, h.bl⟩
  rw [stkVals_set _ _ _ (by omega)]
  exact ((h.own.stored (k * 2) (.int .i64 x)).1.stored (k * 2 + 1) (.int .i64 y)).1
theorem ov_setN (h : OV gx gn gv go gb go n o now b W) (hn : gn ≠ gx ∧ gn ≠ go ∧ gn ≠ gv) (x : Int) (hc : gn < W.heap.size) : OV gx gn gv go gb go n o x b (W.setCell ⟨gn, 0, none⟩ (.int .i64 x)) := by
  have hg := grw_set W gn 0 (.int .i64 x)
  refine ⟨cell_grown hg h.l0 (fun e => hn.1 (Option.some.inj e)) h.c0, ?_, cell_grown hg h.l2 (fun e => hn.2.2 (Option.some.inj e)) h.c2, h.own.kept hg (.inr fun e => hn.2.1 (Option.some.inj e).symm), h.row.of_block (hg.block _ h.row.lt fun e => h.n1 (Option.some.inj e)), Nat.lt_of_lt_of_le h.l0 hg.size, Nat.lt_of_lt_of_le h.l1 hg.size, Nat.lt_of_lt_of_le h.l2 hg.size, h.n0, h.n1, h.n2, h.n3, h.ol, h.bl⟩
  have h1 := h.c1
  have := World.cell?_setCell_same W ⟨gn, 0, none⟩ (.int .i64 x) h1
  exact this
theorem PX.setO (h : PX w1 go gx gb gv gn B0 n o now b T G vT vD W) (hl : PLay w1 go gx gb gv gn B0) {k : Nat} (hk : k < n) (x y : Int) : PX w1 go gx gb gv gn B0 n (o.set k (x, y)) now b T G vT vD ((W.setCell ⟨go, k * 2, none⟩ (.int .i64 x)).setCell ⟨go, k * 2 + 1, none⟩ (.int .i64 y)) := by
  obtain ⟨⟨a1, a2, a3, a4, a5⟩, ⟨b1, b2, b3, b4, b5⟩, c1, c2, c3, c4, c5, c6⟩ := hl
  have hg := grw_trans (grw_set W go (k * 2) (.int .i64 x)) (grw_set _ go (k * 2 + 1) (.int .i64 y))
  exact ⟨fr_grown h.fr hg a1, ov_setO h.ov ⟨c1, by omega, c3⟩ hk x y, h.td.kept hg (.inr fun e => by have := (h.td.lt _ e).1; omega), h.dg.kept hg (.inr fun e => by have := (h.dg.lt _ e).1; omega), h.nT, h.nD, (World.frozen?_setCell _ _ _ _).trans ((World.frozen?_setCell _ _ _ _).trans h.fz)⟩
theorem PX.setN (h : PX w1 go gx gb gv gn B0 n o now b T G vT vD W) (hl : PLay w1 go gx gb gv gn B0) (x : Int) : PX w1 go gx gb gv gn B0 n o x b T G vT vD (W.setCell ⟨gn, 0, none⟩ (.int .i64 x)) := by
  obtain ⟨⟨a1, a2, a3, a4, a5⟩, ⟨b1, b2, b3, b4, b5⟩, c1, c2, c3, c4, c5, c6⟩ := hl
  have hg := grw_set W gn 0 (.int .i64 x)
  exact ⟨fr_grown h.fr hg (by omega), ov_setN h.ov ⟨by omega, by omega, by omega⟩ x h.ov.l1, h.td.kept hg (.inr fun e => (h.nT gn e).1 rfl), h.dg.kept hg (.inr fun e => h.nD gn e rfl), h.nT, h.nD, (World.frozen?_setCell _ _ _ _).trans h.fz⟩
/-- A job more is done. -/
theorem PX.add (h : PX w1 go gx gb gv gn B0 n o now b T G vT vD W) (hl : PLay w1 go gx gb gv gn B0) {j : JobIn} {v' : Value} (hg : W.grownBy W' vD.ownBlock) (ho : W'.ownsRow B0 62 3 v' (G.length + 1) (jobVals (G ++ [j]))) (hat : v'.ownBlock = vD.ownBlock ∨ v'.ownBlock = some W.heap.size) : PX w1 go gx gb gv gn B0 n o now b T (G ++ [j]) vT v' W' := by
  obtain ⟨⟨a1, a2, a3, a4, a5⟩, ⟨b1, b2, b3, b4, b5⟩, c1, c2, c3, c4, c5, c6⟩ := hl
  have hD : ∀ k, vD.ownBlock = some k → B0 ≤ k := fun k e => (h.dg.lt k e).1
  have hother : ∀ g, g < W.heap.size → (∀ k, vD.ownBlock = some k → k ≠ g) → W'.heap[g]? = W.heap[g]? := fun g hgl hne => hg.block g hgl fun e => hne g e.symm rfl
  have hov : OV gx gn gv go gb go n o now b W' := by
    have e : ∀ g i v, g < W.heap.size → (∀ k, vD.ownBlock = some k → k ≠ g) → W.cell? ⟨g, i, none⟩ = some v → W'.cell? ⟨g, i, none⟩ = some v := fun g i v h1 h2 h3 => cell_grown hg h1 (fun e => h2 g e rfl) h3
    have l0 := h.ov.l0
    have l1 := h.ov.l1
    have l2 := h.ov.l2
    refine ⟨e _ _ _ l0 (fun k hk => by have := hD k hk; omega) h.ov.c0, e _ _ _ l1 (fun k hk => h.nD k hk) h.ov.c1, e _ _ _ l2 (fun k hk => by have := hD k hk; omega) h.ov.c2, h.ov.own.kept hg (.inr fun e => by have := hD go e.symm; omega), h.ov.row.of_block (hother gb h.ov.row.lt fun k hk => by have := hD k hk; omega), Nat.lt_of_lt_of_le l0 hg.size, Nat.lt_of_lt_of_le l1 hg.size, Nat.lt_of_lt_of_le l2 hg.size, h.ov.n0, h.ov.n1, h.ov.n2, h.ov.n3, h.ov.ol, h.ov.bl⟩
  refine ⟨⟨hg.os.trans h.fr.os, hg.tape.trans h.fr.tape, hg.output.trans h.fr.output, Nat.le_trans h.fr.size hg.size, fun k hk => (hother k (Nat.lt_of_lt_of_le hk h.fr.size) fun j hj => by have := hD j hj; omega).trans (h.fr.block k hk)⟩, hov, ?_, by rw [List.length_append]; exact ho, fun k hk => ?_, fun k hk => ?_, froz_grown hg h.ov.l1 (fun e => h.nD gn e rfl) h.fz⟩
  · cases hv : vT.ownBlock with
    | none => exact h.td.kept hg (.inl hv)
    | some k => exact h.td.kept hg (.inr fun e => (h.nT k hv).2 (by rw [← e]; exact hv))
  · refine ⟨(h.nT k hk).1, fun e => ?_⟩
    rcases hat with h1 | h1
    · exact (h.nT k hk).2 (by rw [← h1]; exact e)
    · rw [h1] at e
      have := Option.some.inj e
      have := (h.td.lt k hk).2
      omega
  · rcases hat with h1 | h1
    · exact h.nD k (by rw [← h1]; exact hk)
    · rw [h1] at hk
      have := Option.some.inj hk
      have := h.ov.l1
      omega
/-- One job less is to be done. -/
theorem PX.del (h : PX w1 go gx gb gv gn B0 n o now b T G vT vD W) (hl : PLay w1 go gx gb gv gn B0) {g m cap : Nat} (hv : vT.ownBlock = some g) {T2 : List JobIn} (hg : W.grownBy W' (some g)) (ho : W'.ownsRow B0 62 3 (.slice (some ⟨g, 0, none⟩) m cap) m (jobVals T2)) (hm : T2.length = m) : PX w1 go gx gb gv gn B0 n o now b T2 G (.slice (some ⟨g, 0, none⟩) m cap) vD W' := by
  obtain ⟨⟨a1, a2, a3, a4, a5⟩, ⟨b1, b2, b3, b4, b5⟩, c1, c2, c3, c4, c5, c6⟩ := hl
  have hg0 := (h.td.lt g hv).1
  obtain ⟨n1, n2⟩ := h.nT g hv
  exact ⟨fr_grown h.fr hg (by omega), h.ov.grown hg (by omega) n1 (by omega) (by omega) (by omega), by rw [hm]; exact ho, h.dg.kept hg (.inr n2), fun k hk => by cases hk; exact ⟨n1, n2⟩, h.nD, froz_grown hg h.ov.l1 (fun e => n1 (Option.some.inj e)) h.fz⟩
end
set_option maxRecDepth 100000 in
set_option maxHeartbeats 2000000 in
theorem cloneJ_any (base : Nat) (L : List JobIn) (v : Value) (hL : L.length ≤ 4096) (w : World) (ho : w.ownsRow base 62 3 v L.length (jobVals L)) :
    Calls Try.prog 20 #[v] w fun e w' => ∃ v', e = .returned v' ∧ Hid (w'.ownsRow w.heap.size 62 3 v' L.length (jobVals L)) ∧ Hid (Below w.heap.size w w') := by
  obtain ⟨i0, hi0, hz0, hz1, hz2⟩ := info_of infoJ
  have HL := Lib.hid (jobVals_length L)
  have H1 := Lib.hid (jobVals_one L)
  have q22 : ∀ (w : World) (a : Option Addr) (n c n' c' : Nat), (binOp .eql 56 (.slice a n c) (.slice none n' c')).run Try.prog w = .ok (.bool a.isNone) w := fun w a n c n' c' => Lib.run_eql_slice_nil w _ _ a n c n' c' Try.underlying56
  rcases ho.2 with ⟨rfl, h0⟩ | ⟨g, cap, cur, rfl, _, hg, _⟩
  · have h1 : L = [] := List.length_eq_zero_iff.1 h0
    subst h1
    go_enter Try.func20, Try.ntmps20
    go_wp2
    go_ret
    exact ⟨_, rfl, World.ownsRow_nil _ _ _ _, Below.refl _ _⟩
  · have HN : Hid (∀ j u, (jobVals L)[j]? = some u → w.cell? ((⟨g, 0, none⟩ : Addr).add j) = some u) := fun j u hj => ho.cells rfl j u hj
    clear ho hg
    obtain ⟨news, hne⟩ : ∃ news, jobVals L = news := ⟨_, rfl⟩
    rw [hne] at HL HN H1 ⊢
    clear hne
    generalize L.length = n at *
    go_enter Try.func20, Try.ntmps20
    go_wp2_with (at_builtin; refine wpList_append_own _ rfl (.tmp 5) (.tmp 6) 56 rfl w.heap.size 62 i0 _ 3 40 Try.underlying56 hi0 hz0 hz1 hz2 rfl (by decide) _ 0 _ rfl (World.ownsRow_made w #[] 0 (Nat.le_refl _) (Nat.zero_le _) (by simp)) ⟨g, 0, none⟩ n cap news rfl ?qc1 ?qc2 ?qc3 ?qc4 ?qc5 ?qc6 ?_)
    case qc1 => exact HL.out
    case qc2 => intro j u hj; exact Lib.cell?_alloc_some _ (HN.out j u hj)
    case qc3 => exact H1.out
    case qc4 => unfold maxLen; omega
    case qc5 => omega
    case qc6 => simp
    intro v' w1 hown hgrow hnil
    obtain ⟨va, vc, rfl⟩ := own_slice hown
    go_wp2
    go_ret
    refine ⟨_, rfl, Lib.hid (by simpa using hown), ?_⟩
    exact ((Below.refl _ w).alloc (Nat.le_refl _) _).grown hgrow (by simp) (by intro k hk; simp [Value.ownBlock] at hk; omega)
end Quo
end Go.Proofs.Ytiabnjmblcogmaa
end
