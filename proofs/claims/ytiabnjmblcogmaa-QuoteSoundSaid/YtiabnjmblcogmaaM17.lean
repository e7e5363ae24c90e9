/- Texts put together: QuoE2, QuoO, QuoK, OrdU. -/
import Derived.Test.YtiabnjmblcogmaaM16
import Derived.Test.YtiabnjmblcogmaaChecked
import Derived.WalkKit
import Derived.Deep.RegionHeld3
set_option linter.all false
section
namespace Go.Proofs.Ytiabnjmblcogmaa
namespace Quo
/-- The sum of the times of those first ones of which something is so. -/
def sumIf (P : Nat → Bool) (t : Nat → Int) : Nat → Int
  | 0 => 0
  | n + 1 => sumIf P t n + if P n then t n else 0
theorem sumIf_mono {P Q : Nat → Bool} {t : Nat → Int} (ht : ∀ k, 0 ≤ t k) : ∀ n, (∀ k, k < n → P k = true → Q k = true) → sumIf P t n ≤ sumIf Q t n
  | 0, _ => Int.le_refl _
  | n + 1, h => by
    have ih := sumIf_mono ht n fun k hk => h k (by omega)
    rw [sumIf, sumIf]
    have h1 := h n (by omega)
    have h2 := ht n
    cases hp : P n with
    | false => rw [if_neg (by simp)]; split <;> omega
    | true => rw [if_pos rfl, if_pos (h1 hp)]; omega
theorem sumIf_more {P Q : Nat → Bool} {t : Nat → Int} (ht : ∀ k, 0 ≤ t k) {k : Nat} (hq : Q k = true) (hp : P k = false) : ∀ n, k < n → (∀ x, x < n → P x = true → Q x = true) → sumIf P t n + t k ≤ sumIf Q t n
  | 0, hk, _ => absurd hk (Nat.not_lt_zero k)
  | n + 1, hk, h => by
    rw [sumIf, sumIf]
    by_cases e : k = n
    · subst e
      have := sumIf_mono ht k fun x hx => h x (by omega)
      rw [hp, if_neg (by simp), if_pos hq]
      omega
    · have ih := sumIf_more ht hq hp n (by omega) fun x hx => h x (by omega)
      have h1 := h n (by omega)
      have h2 := ht n
      cases hpn : P n with
      | false => rw [if_neg (by simp)]; split <;> omega
      | true => rw [if_pos rfl, if_pos (h1 hpn)]; omega
/-- Is a job done at a time? -/
def atT (S : PS) (T : Int) (x : Nat) : Bool := isB S x && (decide (begOf S x ≤ T) && decide (T < endOf S x))
def ended (S : PS) (T : Int) (x : Nat) : Bool := isB S x && decide (endOf S x ≤ T)
structure PI (p : PC) (S : PS) : Prop where
  now : 0 ≤ S.now
  st : ∀ k, isB S k = true → endOf S k = begOf S k + p.tm k ∧ 0 ≤ begOf S k ∧ begOf S k ≤ S.now
  wts : ∀ k x, x < p.n → isB S k = true → p.wt k x = true → isB S x = true ∧ endOf S x ≤ begOf S k
  cnt : ∀ T, T ≤ S.now → (((List.range p.n).filter (atT S T)).length : Int) ≤ p.sl
  ch : S.now = 0 ∨ ∃ x, x < p.n ∧ isB S x = true ∧ endOf S x = S.now
  chk : ∀ k, isB S k = true → begOf S k = 0 ∨ ∃ x, x < p.n ∧ isB S x = true ∧ endOf S x = begOf S k
  sm : S.now ≤ sumIf (ended S S.now) p.tm p.n
  smk : ∀ k, isB S k = true → begOf S k ≤ sumIf (ended S (begOf S k)) p.tm p.n
theorem PI.start (p : PC) (h : 0 ≤ p.sl) (ht : ∀ k, 0 ≤ p.tm k) : PI p (ps0 p.n) := by
  have hn : ∀ {k}, isB (ps0 p.n) k = true → False := fun {k} hk => by rw [isB_ps0] at hk; cases hk
  have hs : ∀ n, 0 ≤ sumIf (ended (ps0 p.n) (ps0 p.n).now) p.tm n := fun n => by
    induction n with
    | zero => exact Int.le_refl _
    | succ n ih => rw [sumIf]; have := ht n; split <;> omega
  refine ⟨Int.le_refl _, fun k hk => (hn hk).elim, fun k x hx hk => (hn hk).elim, fun T hT => ?_, .inl rfl, fun k hk => (hn hk).elim, hs _, fun k hk => (hn hk).elim⟩
  have : (List.range p.n).filter (atT (ps0 p.n) T) = [] := by
    rw [List.filter_eq_nil_iff]
    intro k hk hc
    unfold atT at hc
    rw [isB_ps0] at hc
    cases hc
  rw [this]
  exact h
theorem isO_ended {S : PS} {x : Nat} : isO S x = ended S S.now x := rfl
theorem PI.begin {p : PC} {B : Int} {S : PS} (h : PI p S) (hw : PW p B S) (hT : PT p) (h0 : ∀ k, 0 ≤ p.tm k) {k : Nat} (hkn : k < p.n) (hr : isR p S k = true) (hd : (doing p S : Int) < p.sl) : PI p (begin1 p S k) := by
  have ht := isR_isT hr
  have hb : k < S.beg.length := by rw [hw.lb]; exact hkn
  have ho : k < S.out.length := by rw [hw.lo]; exact hkn
  obtain ⟨hnb, hrun⟩ := isT_notB ht
  have htp := hT.pos k hrun
  have hall : ∀ x, x < p.n → p.wt k x = true → isO S x = true := fun x hx hwx => by
    unfold isR at hr
    rw [Bool.and_eq_true, List.all_eq_true] at hr
    have := hr.2 x (List.mem_range.2 hx)
    rw [hwx] at this
    simpa using this
  have hnow := h.now
  -- what is old, what is new
  have hB : ∀ j, isB (begin1 p S k) j = true → j = k ∨ (j ≠ k ∧ isB S j = true) := fun j hj => by
    rw [isB_begin hb] at hj
    by_cases e : j = k
    · exact .inl e
    · rw [if_neg e] at hj; exact .inr ⟨e, hj⟩
  have hBo : ∀ j, isB S j = true → isB (begin1 p S k) j = true := fun j hj => by
    rw [isB_begin hb]; split
    · rfl
    · exact hj
  have hbg : begOf (begin1 p S k) k = S.now := by unfold begOf; rw [out_begin ho, if_pos rfl]
  have hen : endOf (begin1 p S k) k = S.now + p.tm k := by unfold endOf; rw [out_begin ho, if_pos rfl]
  have hbo : ∀ j, j ≠ k → begOf (begin1 p S k) j = begOf S j := fun j e => by unfold begOf; rw [out_begin ho, if_neg e]
  have heo : ∀ j, j ≠ k → endOf (begin1 p S k) j = endOf S j := fun j e => by unfold endOf; rw [out_begin ho, if_neg e]
  have hne : ∀ j, isB S j = true → j ≠ k := fun j hj e => by rw [e, hnb] at hj; cases hj
  have hnw : (begin1 p S k).now = S.now := rfl
  have hed : ∀ T x, ended S T x = true → ended (begin1 p S k) T x = true := fun T x hx => by
    unfold ended at hx ⊢
    rw [Bool.and_eq_true] at hx ⊢
    exact ⟨hBo x hx.1, by rw [heo x (hne x hx.1)]; exact hx.2⟩
  have hsum : ∀ T, sumIf (ended S T) p.tm p.n ≤ sumIf (ended (begin1 p S k) T) p.tm p.n := fun T => sumIf_mono h0 p.n fun x _ hx => hed T x hx
  refine ⟨hnow, fun j hj => ?_, fun j x hx hj hwx => ?_, fun T hTn => ?_, ?_, fun j hj => ?_, Int.le_trans h.sm (hsum _), fun j hj => ?_⟩
  · rcases hB j hj with e | ⟨e, hj2⟩
    · rw [e, hbg, hen]; exact ⟨rfl, hnow, Int.le_refl _⟩
    · rw [hbo j e, heo j e]; exact h.st j hj2
  · rcases hB j hj with e | ⟨e, hj2⟩
    · rw [e] at hwx
      have hO := hall x hx hwx
      unfold isO at hO
      rw [Bool.and_eq_true, decide_eq_true_eq] at hO
      rw [e, hbg, heo x (hne x hO.1)]
      exact ⟨hBo x hO.1, hO.2⟩
    · have := h.wts j x hx hj2 hwx
      rw [hbo j e, heo x (hne x this.1)]
      exact ⟨hBo x this.1, this.2⟩
  · rw [hnw] at hTn
    by_cases hTl : T < S.now
    · refine Int.le_trans ?_ (h.cnt T hTn)
      have : ((List.range p.n).filter (atT (begin1 p S k) T)).length ≤ ((List.range p.n).filter (atT S T)).length := filter_len_le _ fun x _ hx => by
        unfold atT at hx ⊢
        rw [Bool.and_eq_true, Bool.and_eq_true, decide_eq_true_eq, decide_eq_true_eq] at hx ⊢
        obtain ⟨h1, h2, h3⟩ := hx
        rcases hB x h1 with e | ⟨e, hx2⟩
        · rw [e, hbg] at h2; omega
        · rw [hbo x e] at h2; rw [heo x e] at h3; exact ⟨hx2, h2, h3⟩
      omega
    · have hTe : T = S.now := by omega
      subst hTe
      have h1 := doing_begin (p := p) hkn hb ho hnb htp
      have h2 : ((List.range p.n).filter (atT (begin1 p S k) S.now)).length ≤ doing p (begin1 p S k) := filter_len_le _ fun x _ hx => by
        unfold atT at hx
        rw [Bool.and_eq_true, Bool.and_eq_true] at hx
        unfold isD
        rw [hx.1, Bool.true_and]
        exact hx.2.2
      omega
  · rcases h.ch with e | ⟨x, hx, h1, h2⟩
    · exact .inl e
    · exact .inr ⟨x, hx, hBo x h1, by rw [heo x (hne x h1)]; exact h2⟩
  · have step : ∀ T, (T = 0 ∨ ∃ x, x < p.n ∧ isB S x = true ∧ endOf S x = T) → T = 0 ∨ ∃ x, x < p.n ∧ isB (begin1 p S k) x = true ∧ endOf (begin1 p S k) x = T := fun T hh => by
      rcases hh with e | ⟨x, hx, h1, h2⟩
      · exact .inl e
      · exact .inr ⟨x, hx, hBo x h1, by rw [heo x (hne x h1)]; exact h2⟩
    rcases hB j hj with e | ⟨e, hj2⟩
    · rw [e, hbg]; exact step _ h.ch
    · rw [hbo j e]; exact step _ (h.chk j hj2)
  · rcases hB j hj with e | ⟨e, hj2⟩
    · rw [e, hbg]; exact Int.le_trans h.sm (hsum _)
    · rw [hbo j e]; exact Int.le_trans (h.smk j hj2) (hsum _)
theorem PI.later {p : PC} {B : Int} {S : PS} (h : PI p S) (hw : PW p B S) (hT : PT p) (h0 : ∀ k, 0 ≤ p.tm k) (ht : thenTo S p.n ≠ 0) : PI p (later p S) := by
  have hnow := h.now
  rcases thenTo_ok hnow p.n with ⟨h1, h2⟩ | ⟨h1, ⟨y, hy, hyd, hye⟩, h3⟩
  · exact absurd h1 ht
  · have hyb := (isD_lt hyd).1
    have hyt := hT.pos y (hw.run y hyb)
    have hsy := h.st y hyb
    refine ⟨by show 0 ≤ thenTo S p.n; omega, fun k hk => ?_, h.wts, fun T hTn => ?_, .inr ⟨y, hy, hyb, hye⟩, h.chk, ?_, h.smk⟩
    · have := h.st k hk
      exact ⟨this.1, this.2.1, by show begOf S k ≤ thenTo S p.n; omega⟩
    · show (((List.range p.n).filter (atT S T)).length : Int) ≤ p.sl
      by_cases hTl : T ≤ S.now
      · exact h.cnt T hTl
      · have h4 : ((List.range p.n).filter (atT S T)).length ≤ ((List.range p.n).filter (atT S S.now)).length := filter_len_le _ fun x _ hx => by
          unfold atT at hx ⊢
          rw [Bool.and_eq_true, Bool.and_eq_true, decide_eq_true_eq, decide_eq_true_eq] at hx ⊢
          obtain ⟨a1, a2, a3⟩ := hx
          exact ⟨a1, (h.st x a1).2.2, by omega⟩
        have := h.cnt S.now (Int.le_refl _)
        omega
    · show thenTo S p.n ≤ sumIf (ended S (thenTo S p.n)) p.tm p.n
      have h4 := h.smk y hyb
      have h5 := sumIf_more (P := ended S (begOf S y)) (Q := ended S (thenTo S p.n)) h0 (k := y) (by unfold ended; rw [hyb, hye]; simp) (by unfold ended; rw [decide_eq_false (by omega), Bool.and_false]) p.n hy (fun x _ hx => by
        unfold ended at hx ⊢
        rw [Bool.and_eq_true, decide_eq_true_eq] at hx ⊢
        exact ⟨hx.1, by omega⟩)
      omega
/-- Whatever is planned is what a sound plan stands at when nothing is left. -/
theorem plan_end {p : PC} {B : Int} (hB : ∀ k, 0 ≤ p.tm k ∧ p.tm k ≤ B) (hT : PT p) : ∀ (f : Nat) (S : PS) (o : List (Int × Int)), PI p S → PW p B S → planTo p f S = some o → ∃ S', o = S'.out ∧ PI p S' ∧ PW p B S' ∧ left p S' = 0
  | 0, S, o, _, _, h => by cases h
  | f + 1, S, o, hi, hw, h => by
    have h0 : ∀ k, 0 ≤ p.tm k := fun k => (hB k).1
    rw [planTo] at h
    by_cases hl : left p S = 0
    · rw [if_pos hl] at h
      exact ⟨S, by cases h; rfl, hi, hw, hl⟩
    · rw [if_neg hl] at h
      have lat : ((if thenTo S p.n = 0 then none else planTo p f (later p S)) = some o) → ∃ S', o = S'.out ∧ PI p S' ∧ PW p B S' ∧ left p S' = 0 := fun h => by
        by_cases ht : thenTo S p.n = 0
        · rw [if_pos ht] at h; cases h
        · rw [if_neg ht] at h
          exact plan_end hB hT f _ o (hi.later hw hT h0 ht) hw.later h
      cases hn : nextR p S with
      | none => rw [hn] at h; exact lat h
      | some k =>
        rw [hn] at h
        obtain ⟨hkn, hr⟩ := find_lt hn
        dsimp only at h
        by_cases hd : (doing p S : Int) < p.sl
        · rw [if_pos hd] at h
          exact plan_end hB hT f _ o (hi.begin hw hT h0 hkn hr hd) (hw.begin hB hT hkn (isR_isT hr)) h
        · rw [if_neg hd] at h; exact lat h
theorem left_zero {p : PC} {S : PS} (h : left p S = 0) {k : Nat} (hk : k < p.n) (hr : p.run k = true) : isB S k = true := by
  unfold left at h
  rw [List.length_eq_zero_iff, List.filter_eq_nil_iff] at h
  have := h k (List.mem_range.2 hk)
  unfold isT at this
  rw [hr] at this
  simpa using this
end Quo
end Go.Proofs.Ytiabnjmblcogmaa
end
section
namespace Go.Proofs.Ytiabnjmblcogmaa
open Go.RowKit
namespace Quo
open Cat (CatIn BayIn chkC nob noy makerV okC hasBad hasBay okY)
open Rec (BlueIn Stk bchk inB fitsTo bnds chk cnt goodTo good inB_mk inB_ok)
theorem goodTo_32 (l : List Stk) (t : Int) (ht : t ≤ 32) : ∀ k, goodTo l t k = true → goodTo l 32 k = true
  | 0, _ => rfl
  | k + 1, h => by
    rw [goodTo, Bool.and_eq_true] at h ⊢
    refine ⟨goodTo_32 l t ht k h.1, ?_⟩
    have h2 := h.2
    unfold good at h2 ⊢
    simp only [Bool.and_eq_true, decide_eq_true_eq] at h2 ⊢
    obtain ⟨a, b, c⟩ := h2
    exact ⟨a, by omega, c⟩
theorem bchk_32 {b : BlueIn} {t : Int} (h : bchk b t = 0) : bchk b 32 = 0 := by
  obtain ⟨⟨t0, t1⟩, ⟨m0, m1⟩, ⟨p0, p1⟩, ⟨i0, i1⟩, ⟨c0, c1⟩, ⟨s0, s1⟩, ⟨o0, o1⟩, -⟩ := Rec.bchk_ok b t h
  have hk : chk b.needs t = 0 ∧ cnt b.needs b.makes b.needs.length = 0 := by
    unfold bchk at h
    by_cases h1 : chk b.needs t = 0
    · by_cases h2 : cnt b.needs b.makes b.needs.length = 0
      · exact ⟨h1, h2⟩
      · rw [decide_eq_false h2] at h; simp at h
    · rw [decide_eq_false h1] at h; simp at h
  have hk2 : chk b.needs 32 = 0 := by
    have h1 := hk.1
    unfold chk at h1 ⊢
    cases hg : goodTo b.needs t b.needs.length with
    | false => rw [hg] at h1; cases h1
    | true =>
      rw [hg] at h1
      rw [goodTo_32 _ _ t1 _ hg]
      exact h1
  unfold bchk
  have hf : fitsTo (bnds b 32) 7 = true := by
    have e : fitsTo (bnds b 32) 7 = (((((((true && inB (32, 0, 32)) && inB (b.makes, 1, 32)) && inB (b.per, 1, 1048576)) && inB (b.time, 1, 1048576)) && inB (b.copy, 0, 1048576)) && inB (b.study, 0, 1048576)) && inB (b.most, 1, 1000)) := rfl
    rw [e, inB_mk (by omega) (by omega), inB_mk m0 (by omega), inB_mk p0 p1, inB_mk i0 i1, inB_mk c0 c1, inB_mk s0 s1, inB_mk o0 o1]
    rfl
  rw [hf, decide_eq_true hk2, decide_eq_true hk.2]
  rfl
theorem good_of {c : CatIn} (h : chkC c = 0) : (1 ≤ c.types ∧ c.types ≤ 32) ∧ c.blues.length ≤ 16 ∧ (∀ k, k < c.blues.length → bchk (c.blues.getD k nob) c.types = 0) ∧ ∀ i, i < c.bays.length → okY c.places (c.bays.getD i noy) = true := by
  have hok : okC c = true := by
    unfold chkC at h
    cases ho : okC c with
    | true => rfl
    | false => rw [ho] at h; cases h
  unfold okC at hok
  simp only [Bool.and_eq_true, decide_eq_true_eq, Bool.not_eq_true'] at hok
  obtain ⟨h1, h2, h3, h4, h5, h6, h7, h8⟩ := hok
  unfold hasBad at h6
  unfold hasBay at h7
  rw [decide_eq_false_iff_not] at h6 h7
  have l6 := Cat.fst_low (fun i => decide (bchk (c.blues.getD i nob) c.types ≠ 0)) c.blues.length
  have l7 := Cat.fst_low (fun i => !okY c.places (c.bays.getD i noy)) c.bays.length
  have e6 := (Cat.fst_none _ _).1 (show Cat.fst (fun i => decide (bchk (c.blues.getD i nob) c.types ≠ 0)) c.blues.length = -1 by omega)
  have e7 := (Cat.fst_none _ _).1 (show Cat.fst (fun i => !okY c.places (c.bays.getD i noy)) c.bays.length = -1 by omega)
  refine ⟨inB_ok h1, h4, fun k hk => ?_, fun i hi => ?_⟩
  · have := e6 k hk
    simpa using this
  · have := e7 i hi
    simpa using this
theorem bay_of {c : CatIn} (h : chkC c = 0) {i : Nat} (hi : i < c.bays.length) : (0 ≤ (c.bays.getD i noy).make ∧ (c.bays.getD i noy).make ≤ 8) ∧ 0 ≤ (c.bays.getD i noy).rate ∧ (c.bays.getD i noy).rate ≤ 10000 := by
  have := (good_of h).2.2.2 i hi
  unfold okY at this
  simp only [Bool.and_eq_true] at this
  exact ⟨inB_ok this.2.1, inB_ok this.2.2.2⟩
/-- Runs that may be are some, and not too many. -/
theorem run_of {c : CatIn} {l : List Int} (h : runsOk c l = true) (k : Nat) (hk : k < l.length) : 0 ≤ l.getD k 0 ∧ l.getD k 0 ≤ 1000 := by
  unfold runsOk at h
  rw [Bool.and_eq_true, List.all_eq_true] at h
  have := h.1 (l.getD k 0) (by rw [List.getD_eq_getElem?_getD, List.getElem?_eq_getElem hk]; exact List.getElem_mem hk)
  unfold runOk at this
  simpa using this
theorem upI_pos {n : Int} (h : 1 ≤ n) : 1 ≤ Rec.upI n 100 := by
  unfold Rec.upI
  omega
/-- A job takes some time. -/
theorem time_pos {c : CatIn} {bay : Int} {l : List Int} {level : Int} (hm : mayV c bay l level = 0) {k : Nat} (hk : k < l.length) (hq : l.getD k 0 ≠ 0) : 1 ≤ timeJ c k l level := by
  obtain ⟨hc, -, -, hr, h0, h1⟩ := mayV_ok hm
  have hlen := runsOk_len hr
  have hkb : k < c.blues.length := by omega
  have hb := (good_of hc).2.2.1 k hkb
  have hr2 := run_of hr k hk
  obtain ⟨-, -, -, ⟨i0, i1⟩, -⟩ := Rec.bchk_ok _ _ hb
  unfold timeJ Rec.timeV
  rw [if_pos]
  · show 1 ≤ Rec.upI _ 100
    refine upI_pos ?_
    have h2 : 1 ≤ (c.blues.getD k nob).time * l.getD k 0 := Int.mul_pos (by omega) (by omega)
    exact Int.mul_pos h2 (by omega)
  · unfold Rec.ok2
    rw [decide_eq_true (bchk_32 hb), inB_mk h0 h1, inB_mk (by omega) hr2.2]
    rfl
/-- What is to be planned. -/
def pcOf (c : CatIn) (bay : Int) (l : List Int) (level : Int) : PC := ⟨c.blues.length, fun k => !decide (l.getD k 0 = 0), fun k x => waitsV c l k x, fun k => timeJ c k l level, makeOf c bay⟩
/-- What a plan answers. -/
def planV (c : CatIn) (bay : Int) (l : List Int) (level : Int) : List (Int × Int) × Int :=
  if mayV c bay l level ≠ 0 then ([], mayV c bay l level)
  else if 0 < jobsN (pcOf c bay l level) ∧ makeOf c bay = 0 then ([], 10)
  else match planTo (pcOf c bay l level) (2 * c.blues.length + 1) (ps0 c.blues.length) with
    | none => ([], 9)
    | some o => (o, 0)
theorem pcOf_time (c : CatIn) (bay : Int) (l : List Int) (level : Int) (k : Nat) : 0 ≤ (pcOf c bay l level).tm k ∧ (pcOf c bay l level).tm k ≤ 109951162777600099 := time_le _ _ _
theorem pcOf_pos {c : CatIn} {bay : Int} {l : List Int} {level : Int} (hm : mayV c bay l level = 0) : PT (pcOf c bay l level) := ⟨fun k hk => by
  have hq : ¬ l.getD k 0 = 0 := by simpa [pcOf] using hk
  by_cases hkl : k < l.length
  · exact time_pos hm hkl hq
  · exfalso
    apply hq
    rw [List.getD_eq_getElem?_getD, List.getElem?_eq_none (by omega)]
    rfl⟩
theorem meas_ps0 (p : PC) : meas p (ps0 p.n) = 2 * jobsN p := by
  unfold meas
  rw [left_ps0, doing_ps0]
  rfl
theorem jobsN_le (p : PC) : jobsN p ≤ p.n := by
  have := List.length_filter_le p.run (List.range p.n)
  rw [List.length_range] at this
  exact this
/-- Those for which a job waits. -/
theorem waits_mem {c : CatIn} {l : List Int} (hl : ∀ k, k < l.length → 0 ≤ l.getD k 0) {k x : Nat} : ((x : Int) ∈ waitsL c l k) ↔ waitsV c l k x = true := by
  have hnn : ∀ k, 0 ≤ l.getD k 0 := fun k => by
    by_cases hk : k < l.length
    · exact hl k hk
    · rw [List.getD_eq_getElem?_getD, List.getElem?_eq_none (by omega)]; exact Int.le_refl _
  unfold waitsL waitsV
  rw [List.mem_flatMap, Bool.and_eq_true, List.any_eq_true]
  constructor
  · rintro ⟨s, hs, hx⟩
    unfold waitOf at hx
    split at hx
    · split at hx
      · rw [List.mem_singleton] at hx
        rename_i h1 h2
        rw [← hx] at h2
        have h3 : ((x : Int)).toNat = x := by omega
        rw [h3] at h2
        exact ⟨by rw [decide_eq_false (by omega)]; rfl, s, hs, decide_eq_true (by omega)⟩
      · cases hx
    · cases hx
  · rintro ⟨h1, s, hs, h2⟩
    have h2' := of_decide_eq_true h2
    refine ⟨s, hs, ?_⟩
    unfold waitOf
    have h0 : ¬ l.getD x 0 = 0 := by simpa using h1
    have h4 := hnn x
    have e : makerV c.blues s.1 - 1 = (x : Int) := by omega
    have e2 : (makerV c.blues s.1 - 1).toNat = x := by omega
    rw [if_pos (by omega), e2, if_pos (by omega), e]
    exact List.mem_singleton.2 rfl
end Quo
end Go.Proofs.Ytiabnjmblcogmaa
end
section
namespace Go.Proofs.Ytiabnjmblcogmaa
open Go.RowKit
namespace Quo
open Cat (CatIn BayIn chkC nob noy makerV Cam Box box_new box_b box_next box_flat atY)
open Rec (BlueIn Stk inB)
open Pen (below2 below_al below_dN)
theorem any_notOk {c : CatIn} {l : List Int} : runsOk c l = ((!(l.any fun n => !runOk n)) && decide (l.length = c.blues.length)) := by
  unfold runsOk
  congr 1
  induction l with
  | nil => rfl
  | cons a l ih => rw [List.all_cons, List.any_cons, ih]; cases runOk a <;> simp
theorem atY_no {l : List BayIn} {n : Int} (h : n < 1 ∨ (l.length : Int) < n) : atY l n = (noy, 3) := by
  unfold atY
  rw [if_neg]
  unfold inB
  rw [Bool.and_eq_true, decide_eq_true_eq, decide_eq_true_eq]
  simp only
  omega
theorem atY_yes {l : List BayIn} {n : Int} (h1 : 1 ≤ n) (h2 : n ≤ (l.length : Int)) : atY l n = (l.getD (n.toNat - 1) noy, 0) := by
  unfold atY
  rw [if_pos]
  unfold inB
  rw [Bool.and_eq_true, decide_eq_true_eq, decide_eq_true_eq]
  exact ⟨h1, h2⟩
set_option maxRecDepth 100000 in
set_option maxHeartbeats 4000000 in
theorem made_no (c : CatIn) (w : World) (hc : Cam w c) (bay : Int) (a : Option Addr) (cap : Nat) (l : List Int) (hl : l.length ≤ 20) (ha : In.Ints .i64 w a l) (level : Int) (hm : mayV c bay l level ≠ 0) :
    Calls Try.prog 19 #[.agg c.val, .int .i64 bay, .slice a l.length cap, .int .i64 level] w fun e w' => e = .returned (.tuple #[.pointer none, .int .i64 (mayV c bay l level)]) ∧ Below w.heap.size w w' := by
  have HB0 := Lib.hid (box_new w c 27)
  have CC : Hid (∀ W, Below w.heap.size w W → Calls Try.prog 36 #[.agg c.val] W fun e w' => e = .returned (.int .i64 (chkC c)) ∧ Below W.heap.size W w') := fun W h => Cat.Check_any c W (hc.below h)
  have CY : Hid (∀ W, Below w.heap.size w W → Calls Try.prog 45 #[.agg c.val, .int .i64 bay] W fun e w' => e = .returned (.tuple #[.agg (atY c.bays bay).1.val, .int .i64 (atY c.bays bay).2]) ∧ Below W.heap.size W w') := fun W h => Cat.Bay_any c bay W (hc.below h)
  have CF : Hid (∀ W, Below w.heap.size w W → Calls Try.prog 23 #[.slice a l.length cap, .func (.func 46) #[] #[]] W fun e w' => e = .returned (.bool (l.any fun n => !runOk n)) ∧ W = w') := fun W h => containsMade_any a cap l (by omega) W (ha.below h)
  have HS : Hid (mayV c bay l level = if chkC c ≠ 0 then chkC c else if bay < 1 ∨ (c.bays.length : Int) < bay then 3 else if runsOk c l = false ∨ level < 0 ∨ 10 < level then 1 else 0) := rfl
  have hny := hc.small.2.1
  have hnb := hc.small.1
  have HR : Hid (runsOk c l = ((!(l.any fun n => !runOk n)) && decide (l.length = c.blues.length))) := any_notOk
  have HYN : Hid ((bay < 1 ∨ (c.bays.length : Int) < bay) → atY c.bays bay = (noy, 3)) := atY_no
  have HYY : Hid (1 ≤ bay → bay ≤ (c.bays.length : Int) → (atY c.bays bay).2 = 0) := fun h1 h2 => by rw [atY_yes h1 h2]
  generalize mayV c bay l level = V at *
  generalize chkC c = K at *
  generalize (l.any fun n => !runOk n) = X at *
  generalize runsOk c l = R at *
  clear hc ha
  by_cases hK : K = 0
  · subst hK
    have HS1 : Hid (V = if bay < 1 ∨ (c.bays.length : Int) < bay then 3 else if R = false ∨ level < 0 ∨ 10 < level then 1 else 0) := by show V = _; rw [HS.out, if_neg (by simp)]
    clear HS
    by_cases h1 : bay < 1 ∨ (c.bays.length : Int) < bay
    · have HV : Hid (V = 3) := by show V = 3; rw [HS1.out, if_pos h1]
      rw [HYN.out h1] at CY
      unfold CatIn.val BayIn.val noy at *
      clear h1 HYN HYY HR HS1
      go_enter Try.func19, Try.ntmps19
      go_wp2_with (first
        | (go_at_call 36; (with_reducible refine (CC.out _ (box_b HB0.out)).mono ?_); rintro e w1 ⟨rfl, hb1⟩; have HB1 := Lib.hid (box_next HB0.out hb1); clear hb1; obtain ⟨c0, c1, c2, c3, c4, c5, c6, c7, -⟩ := box_flat HB1)
        | (go_at_call 45; (with_reducible refine (CY.out _ (box_b HB1.out)).mono ?_); rintro e w2 ⟨rfl, hb2⟩; have HB2 := Lib.hid (box_next HB1.out hb2); clear hb2))
      go_ret2
      exact ⟨by rw [HV.out]; rfl, below_al (box_b HB2.out) _⟩
    · have HV : Hid (V = 1) := by
        show V = 1
        rw [HS1.out, if_neg h1]
        by_cases hx : R = false ∨ level < 0 ∨ 10 < level
        · rw [if_pos hx]
        · exfalso
          apply hm
          rw [HS1.out, if_neg h1, if_neg hx]
      have h2 : 1 ≤ bay := by omega
      have h3 : bay ≤ (c.bays.length : Int) := by omega
      rw [HYY.out h2 h3] at CY
      have hRn : Hid (R = false ∨ level < 0 ∨ 10 < level) := by
        by_cases hx : R = false ∨ level < 0 ∨ 10 < level
        · exact hx
        · exfalso
          apply hm
          rw [HS1.out, if_neg h1, if_neg hx]
      clear HS1 HYN HYY
      generalize (atY c.bays bay).1 = E at *
      unfold CatIn.val BayIn.val at *
      clear h1
      by_cases hlen : l.length = c.blues.length
      · have dl : ((l.length : Int) != (c.blues.length : Int)) = false := bne_eq_false_iff_eq.2 (by omega)
        rw [hlen] at CF
        by_cases l0 : level < 0
        · have d0 : decide (level < 0) = true := decide_eq_true l0
          go_enter Try.func19, Try.ntmps19
          go_wp2_with (first
            | (go_at_call 36; (with_reducible refine (CC.out _ (box_b HB0.out)).mono ?_); rintro e w1 ⟨rfl, hb1⟩; have HB1 := Lib.hid (box_next HB0.out hb1); clear hb1; obtain ⟨c0, c1, c2, c3, c4, c5, c6, c7, -⟩ := box_flat HB1)
            | (go_at_call 45; (with_reducible refine (CY.out _ (box_b HB1.out)).mono ?_); rintro e w2 ⟨rfl, hb2⟩; have HB2 := Lib.hid (box_next HB1.out hb2); clear hb2; clear c0 c1 c2 c3 c4 c5 c6 c7; obtain ⟨c0, c1, c2, c3, c4, c5, c6, c7, -⟩ := box_flat HB2; have hs2 := HB2.out.2.1)
            | (go_at_call 23; (with_reducible refine (CF.out _ (below_al (box_b HB2.out) _)).mono ?_); rintro e w3 ⟨rfl, rfl⟩))
          go_ret2
          exact ⟨by rw [HV.out]; rfl, below_al (box_b HB2.out) _⟩
        · have d0 : decide (level < 0) = false := decide_eq_false l0
          by_cases l1 : 10 < level
          · have d1 : decide (10 < level) = true := decide_eq_true l1
            go_enter Try.func19, Try.ntmps19
            go_wp2_with (first
              | (go_at_call 36; (with_reducible refine (CC.out _ (box_b HB0.out)).mono ?_); rintro e w1 ⟨rfl, hb1⟩; have HB1 := Lib.hid (box_next HB0.out hb1); clear hb1; obtain ⟨c0, c1, c2, c3, c4, c5, c6, c7, -⟩ := box_flat HB1)
              | (go_at_call 45; (with_reducible refine (CY.out _ (box_b HB1.out)).mono ?_); rintro e w2 ⟨rfl, hb2⟩; have HB2 := Lib.hid (box_next HB1.out hb2); clear hb2; clear c0 c1 c2 c3 c4 c5 c6 c7; obtain ⟨c0, c1, c2, c3, c4, c5, c6, c7, -⟩ := box_flat HB2; have hs2 := HB2.out.2.1)
              | (go_at_call 23; (with_reducible refine (CF.out _ (below_al (box_b HB2.out) _)).mono ?_); rintro e w3 ⟨rfl, rfl⟩))
            go_ret2
            exact ⟨by rw [HV.out]; rfl, below_al (box_b HB2.out) _⟩
          · have d1 : decide (10 < level) = false := decide_eq_false l1
            have hX : X = true := by
              rcases hRn.out with h | h | h
              · rw [HR.out, decide_eq_true hlen] at h
                cases X
                · cases h
                · rfl
              · exact absurd h l0
              · exact absurd h l1
            subst hX
            clear HR hRn
            go_enter Try.func19, Try.ntmps19
            go_wp2_with (first
              | (go_at_call 36; (with_reducible refine (CC.out _ (box_b HB0.out)).mono ?_); rintro e w1 ⟨rfl, hb1⟩; have HB1 := Lib.hid (box_next HB0.out hb1); clear hb1; obtain ⟨c0, c1, c2, c3, c4, c5, c6, c7, -⟩ := box_flat HB1)
              | (go_at_call 45; (with_reducible refine (CY.out _ (box_b HB1.out)).mono ?_); rintro e w2 ⟨rfl, hb2⟩; have HB2 := Lib.hid (box_next HB1.out hb2); clear hb2; clear c0 c1 c2 c3 c4 c5 c6 c7; obtain ⟨c0, c1, c2, c3, c4, c5, c6, c7, -⟩ := box_flat HB2; have hs2 := HB2.out.2.1)
              | (go_at_call 23; (with_reducible refine (CF.out _ (below_al (box_b HB2.out) _)).mono ?_); rintro e w3 ⟨rfl, rfl⟩))
            go_ret2
            exact ⟨by rw [HV.out]; rfl, below_al (box_b HB2.out) _⟩
      · have dl : ((l.length : Int) != (c.blues.length : Int)) = true := bne_iff_ne.2 (by omega)
        go_enter Try.func19, Try.ntmps19
        go_wp2_with (first
          | (go_at_call 36; (with_reducible refine (CC.out _ (box_b HB0.out)).mono ?_); rintro e w1 ⟨rfl, hb1⟩; have HB1 := Lib.hid (box_next HB0.out hb1); clear hb1; obtain ⟨c0, c1, c2, c3, c4, c5, c6, c7, -⟩ := box_flat HB1)
          | (go_at_call 45; (with_reducible refine (CY.out _ (box_b HB1.out)).mono ?_); rintro e w2 ⟨rfl, hb2⟩; have HB2 := Lib.hid (box_next HB1.out hb2); clear hb2; clear c0 c1 c2 c3 c4 c5 c6 c7; obtain ⟨c0, c1, c2, c3, c4, c5, c6, c7, -⟩ := box_flat HB2; have hs2 := HB2.out.2.1)
          | (go_at_call 23; (with_reducible refine (CF.out _ (below_al (box_b HB2.out) _)).mono ?_); rintro e w3 ⟨rfl, rfl⟩))
        go_ret2
        exact ⟨by rw [HV.out]; rfl, below_al (box_b HB2.out) _⟩
  · have HV : Hid (V = K) := by show V = K; rw [HS.out, if_pos hK]
    have dK : (K != 0) = true := bne_iff_ne.2 hK
    unfold CatIn.val at *
    go_enter Try.func19, Try.ntmps19
    go_wp2_with (go_at_call 36; (with_reducible refine (CC.out _ (box_b HB0.out)).mono ?_); rintro e w1 ⟨rfl, hb1⟩; have HB1 := Lib.hid (box_next HB0.out hb1); clear hb1)
    go_ret2
    exact ⟨by rw [HV.out]; rfl, box_b HB1.out⟩
end Quo
end Go.Proofs.Ytiabnjmblcogmaa
end
section
namespace Go.Proofs.Ytiabnjmblcogmaa
open Go.RowKit
namespace Ord
section
variable {P : Program} {ops : Array Oper} {Q : Exit → Act → World → Prop} {md : Region.Mode} {S : World → Prop} {D : Nat → Bool}
/-- Whatever order is picked; S holds behind every operation that does not wait for a load. -/
def wpAnyU (P : Program) (md : Region.Mode) (ops : Array Oper) (Q : Exit → Act → World → Prop) (S : World → Prop) (D : Nat → Bool) : Nat → Array Bool → Act → World → Prop
  | 0, listed, a, w => Region.ready md ops listed = [] ∧ Q .normal a w
  | fuel + 1, listed, a, w =>
    (Region.ready md ops listed = [] → Q .normal a w) ∧
    ∀ i ∈ Region.ready md ops listed, wpOp P ops Q i (fun a' w' => (D i = false → S w') ∧ wpAnyU P md ops Q S D fuel (listed.setIfInBounds i true) a' w') a w
theorem wpAny_of_U : ∀ (fuel : Nat) (listed : Array Bool) (a : Act) (w : World), wpAnyU P md ops Q S D fuel listed a w → wpAny P md ops Q fuel listed a w
  | 0, _, _, _, h => h
  | fuel + 1, _, _, _, h => ⟨h.1, fun i hi => wpOp_mono (fun a' w' h' => wpAny_of_U fuel _ a' w' h'.2) (h.2 i hi)⟩
theorem off_of {listed : Array Bool} {k : Nat} (h : listed.getD k true = false) : listed.getD k false = false := by
  rcases Nat.lt_or_ge k listed.size with h' | h'
  · simp [h'] at h ⊢; exact h
  · simp [Array.getElem?_eq_none h'] at h
theorem wpAnyU_first {E : Nat → Bool} (hDE : ∀ j, D j = true → E j = true) {i : Nat} {oi : Oper} {v : Value} (hi : ops[i]? = some oi) (hsel : ∀ (j : Nat) (o : Oper) cs b, ops[j]? = some o → o.op ≠ .select cs b)
    (hQ : ∀ c a w, Q (.panic c) (a.put oi.dst v) w → Q (.panic c) a w) (hdep : ∀ j oj, ops[j]? = some oj → E j = true → ∃ e ∈ oj.after, Region.binds md e = true ∧ (e.on = i ∨ E e.on = true)) :
    ∀ (fuel : Nat) (listed : Array Bool) (a : Act) (w : World),
      (∀ j oj, ops[j]? = some oj → j ≠ i → listed.getD j true = false → (∀ e ∈ oj.after, Region.binds md e = true → e.on ≠ i) → oi.apart ops oj = true) →
      i ∈ Region.ready md ops listed → (∀ j, E j = true → listed.getD j true = false) → YieldsIf P ops S oi v a → S w →
      wpAnyU P md ops Q S D fuel (listed.setIfInBounds i true) (a.put oi.dst v) w → wpAnyU P md ops Q S D (fuel + 1) listed a w := by
  intro fuel
  induction fuel with
  | zero =>
    intro listed a w _ hr _ hy hS H
    refine ⟨fun h => (by rw [h] at hr; cases hr), fun j hj => ?_⟩
    by_cases hji : j = i
    · subst hji; exact hy.wpOp hi hS ⟨fun _ => hS, H⟩
    · have := ready_mono hj hji
      rw [H.1] at this
      cases this
  | succ fuel ih =>
    intro listed a w hfree hr hU hy hS H
    refine ⟨fun h => (by rw [h] at hr; cases hr), fun j hj => ?_⟩
    by_cases hji : j = i
    · subst hji; exact hy.wpOp hi hS ⟨fun _ => hS, H⟩
    · have h1 := H.2 j (ready_mono hj hji)
      obtain ⟨hjun, oj, hoj, hall⟩ := mem_ready.1 hj
      have hioff := off_of (mem_ready.1 hr).1
      have hnot : ∀ e ∈ oj.after, Region.binds md e = true → e.on ≠ i := fun e he hb heq => by
        have h1 := hall e he hb
        rw [heq, hioff] at h1
        cases h1
      have hEj : E j = false := by
        cases hd : E j with
        | false => rfl
        | true =>
          obtain ⟨e, he, hb, hor⟩ := hdep j oj hoj hd
          have h2 := hall e he hb
          rcases hor with h3 | h3
          · rw [h3, hioff] at h2; cases h2
          · rw [off_of (hU _ h3)] at h2; cases h2
      have hDj : D j = false := by
        cases hd : D j with
        | false => rfl
        | true => rw [hDE j hd] at hEj; cases hEj
      have h2 := wpOp_putIf hoj (hfree j oj hoj hji hjun hnot) (fun cs b => hsel i oi cs b hi) (fun cs b => hsel j oj cs b hoj) hQ hy h1
      have hfree' : ∀ k ok, ops[k]? = some ok → k ≠ i → (listed.setIfInBounds j true).getD k true = false →
          (∀ e ∈ ok.after, Region.binds md e = true → e.on ≠ i) → oi.apart ops ok = true := fun k ok hk hki hun hno => by
        refine hfree k ok hk hki ?_ hno
        by_cases hjk : j = k
        · subst hjk; exact hjun
        · rw [getD_set_ne true hjk] at hun; exact hun
      have hU' : ∀ k, E k = true → (listed.setIfInBounds j true).getD k true = false := fun k hk => by
        have hjk : j ≠ k := fun e => by rw [e, hk] at hEj; cases hEj
        rw [getD_set_ne true hjk]
        exact hU k hk
      refine wpOp_mono (fun a' w' h3 => ⟨fun _ => h3.2.1 hDj, ih (listed.setIfInBounds j true) a' w' hfree' (ready_mono hr (Ne.symm hji)) hU' h3.1 (h3.2.1 hDj) ?_⟩) h2
      rw [Array.setIfInBounds_comm _ _ hji]
      exact h3.2.2
/-- Whoever waits: each of them waits for i, or for another of them. -/
def waits (md : Region.Mode) (ops : Array Oper) (D : Nat → Bool) (i : Nat) : Bool :=
  (List.range ops.size).all fun j => !D j || match ops[j]? with
    | some oj => oj.after.any fun e => Region.binds md e && (e.on == i || D e.on)
    | none => true
theorem waits_spec {i : Nat} (h : waits md ops D i = true) (j : Nat) (oj : Oper) (hj : ops[j]? = some oj) (hd : D j = true) : ∃ e ∈ oj.after, Region.binds md e = true ∧ (e.on = i ∨ D e.on = true) := by
  simp only [waits, List.all_eq_true, List.mem_range] at h
  have h1 := h j (Array.getElem?_eq_some_iff.1 hj).1
  simp only [hj, hd, Bool.not_true, Bool.false_or] at h1
  obtain ⟨e, he, hb⟩ := Array.any_eq_true'.1 h1
  simp only [Bool.and_eq_true, Bool.or_eq_true, beq_iff_eq] at hb
  exact ⟨e, he, hb.1, hb.2⟩
/-- None of those who wait has come up. -/
def ahead (D : Nat → Bool) (n : Nat) (listed : Array Bool) : Bool := (List.range n).all fun j => !D j || !listed.getD j true
theorem ahead_spec {n : Nat} {listed : Array Bool} (hD : ∀ j, D j = true → j < n) (h : ahead D n listed = true) (j : Nat) (hd : D j = true) : listed.getD j true = false := by
  simp only [ahead, List.all_eq_true, List.mem_range] at h
  have h1 := h j (hD j hd)
  rw [hd] at h1
  simpa using h1
/-- Those of a list. -/
def among (l : List Nat) (j : Nat) : Bool := l.contains j
theorem among_lt {l : List Nat} {n : Nat} (h : l.all (fun j => decide (j < n)) = true) (j : Nat) (hj : among l j = true) : j < n := by
  simp only [List.all_eq_true, decide_eq_true_eq] at h
  exact h j (by simpa [among] using hj)
/-- Whoever waits for i, directly or by another. -/
def desc (md : Region.Mode) (ops : Array Oper) (i : Nat) : List Nat :=
  (List.range ops.size).foldl (fun acc j => if (match ops[j]? with | some oj => oj.after.any fun e => Region.binds md e && (e.on == i || acc.contains e.on) | none => false) then acc ++ [j] else acc) []
theorem wpAnyU_take {l : List Nat} {i : Nat} {oi : Oper} {v : Value} {fuel : Nat} {listed : Array Bool} {a : Act} {w : World} (hi : ops[i]? = some oi)
    (hs : Region.noSelect ops = true) (hf : Region.free md ops listed i = true) (hr : (Region.ready md ops listed).contains i = true)
    (hd : l.all (fun j => (desc md ops i).contains j) = true) (hw : waits md ops (among (desc md ops i)) i = true) (hl : (desc md ops i).all (fun j => decide (j < listed.size)) = true) (ha : ahead (among (desc md ops i)) listed.size listed = true)
    (hQ : ∀ c a w, Q (.panic c) (a.put oi.dst v) w → Q (.panic c) a w) (hy : YieldsIf P ops S oi v a) (hS : S w)
    (h : wpAnyU P md ops Q S (among l) fuel (listed.setIfInBounds i true) (a.put oi.dst v) w) : wpAnyU P md ops Q S (among l) (fuel + 1) listed a w :=
  wpAnyU_first (E := among (desc md ops i)) (fun j hj => by
    simp only [List.all_eq_true] at hd
    exact hd j (by simpa [among] using hj)) hi (Region.noSelect_spec hs) hQ (waits_spec hw) fuel listed a w (Region.free_spec hi hf) (by simpa using hr) (ahead_spec (among_lt hl) ha) hy hS h
/-- What yields in whatever world, however late it stands: an operation that is not waited for by those of the list may be taken when nobody else can come up. -/
theorem wpAnyU_one {i : Nat} {o : Oper} {fuel : Nat} {listed : Array Bool} {a : Act} {w : World} (hr : Region.ready md ops listed = [i]) (ho : ops[i]? = some o)
    (h : ∀ K' : Act → World → Prop, Shut (∀ a w, (D i = false → S w) → wpAnyU P md ops Q S D fuel (listed.setIfInBounds i true) a w → K' a w) → if Region.wanted o (yielded ops a.tmps) = true then Oper.wp P o a w K' Q else K' (a.put o.dst undef) w) :
    wpAnyU P md ops Q S D (fuel + 1) listed a w := by
  refine ⟨fun h0 => absurd (hr ▸ h0) (by simp), fun j hj => ?_⟩
  rw [hr] at hj
  rw [List.mem_singleton.1 hj]
  exact wpOp_step ho fun K' hK => h K' fun a w hS hW => hK a w ⟨hS, hW⟩
theorem wpAnyU_done {listed : Array Bool} {a : Act} {w : World} (hr : Region.ready md ops listed = []) (h : Q .normal a w) : ∀ fuel, wpAnyU P md ops Q S D fuel listed a w
  | 0 => ⟨hr, h⟩
  | _ + 1 => ⟨fun _ => h, by rw [hr]; simp⟩
theorem wp_region_U {id : Nat} {a : Act} {w : World} (S : World → Prop) (l : List Nat) (hm : P.follows .mixedOrders = true)
    (h : wpAnyU P .any ops Q S (among l) ops.size (Array.replicate ops.size false) a w.drew) : (Code.region id ops true).wp P Q a w :=
  wp_region_any hm (wpAny_of_U _ _ _ _ h)
end
end Ord
end Go.Proofs.Ytiabnjmblcogmaa
end
