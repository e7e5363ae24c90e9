/- What is below a node: the reference's Below. -/
import Derived.Test.YtjdkkldlghdojaaGraB2
namespace Go.Proofs.Ytjdkkldlghdojaa
open Go.RowKit
namespace Gra
open In (Ints IsInts)
def bl1 (nd : Int) (f : List Int) (e : Int × Int) : List Int := if (e.1 = nd ∨ e.1 ∈ f) ∧ e.2 ∉ f then f ++ [e.2] else f
def blP (nd : Int) (E : List (Int × Int)) (f : List Int) : List Int := E.foldl (bl1 nd) f
def blT (nd : Int) (E : List (Int × Int)) : Nat → List Int
  | 0 => []
  | k + 1 => blP nd E (blT nd E k)
theorem bl1_len (nd : Int) (f : List Int) (e : Int × Int) : f.length ≤ (bl1 nd f e).length ∧ ((bl1 nd f e).length = f.length → bl1 nd f e = f) := by
  unfold bl1
  split
  · rw [List.length_append]; simp
  · exact ⟨Nat.le_refl _, fun _ => rfl⟩
theorem blP_len (nd : Int) (E : List (Int × Int)) : ∀ f, f.length ≤ (blP nd E f).length ∧ ((blP nd E f).length = f.length → ∀ e ∈ E, bl1 nd f e = f) := by
  induction E with
  | nil => exact fun f => ⟨Nat.le_refl _, fun _ e he => by cases he⟩
  | cons e E ih =>
    intro f
    obtain ⟨h1, h2⟩ := ih (bl1 nd f e)
    obtain ⟨h3, h4⟩ := bl1_len nd f e
    refine ⟨Nat.le_trans h3 h1, fun h e' he' => ?_⟩
    have h5 : (blP nd E (bl1 nd f e)).length = f.length := h
    have h6 := h4 (by omega)
    rcases List.mem_cons.1 he' with rfl | he'
    · exact h6
    · rw [h6] at h2 h5
      exact h2 h5 e' he'
theorem blP_fix (nd : Int) (E : List (Int × Int)) (f : List Int) (h : ∀ e ∈ E, bl1 nd f e = f) : blP nd E f = f := by
  induction E with
  | nil => rfl
  | cons e E ih =>
    show blP nd E (bl1 nd f e) = f
    rw [h e List.mem_cons_self]
    exact ih fun e' he' => h e' (List.mem_cons_of_mem _ he')
structure BlOk (n : Nat) (E : List (Int × Int)) (nd : Int) (f : List Int) : Prop where
  nodup : f.Nodup
  range : ∀ x ∈ f, 1 ≤ x ∧ x ≤ (n : Int)
  sound : ∀ x ∈ f, Rch E nd x
theorem BlOk.step {n : Nat} {E : List (Int × Int)} {nd : Int} {f : List Int} (h : BlOk n E nd f) (hr : ∀ e ∈ E, (1 ≤ e.1 ∧ e.1 ≤ (n : Int)) ∧ (1 ≤ e.2 ∧ e.2 ≤ (n : Int))) {e : Int × Int} (he : e ∈ E) : BlOk n E nd (bl1 nd f e) := by
  unfold bl1
  split
  · rename_i hc
    refine ⟨?_, fun x hx => ?_, fun x hx => ?_⟩
    · rw [List.nodup_append]
      refine ⟨h.nodup, by simp, fun a ha b hb => ?_⟩
      simp at hb
      subst hb
      intro e2; subst e2; exact hc.2 ha
    · rw [List.mem_append, List.mem_singleton] at hx
      rcases hx with hx | rfl
      · exact h.range x hx
      · exact (hr e he).2
    · rw [List.mem_append, List.mem_singleton] at hx
      rcases hx with hx | rfl
      · exact h.sound x hx
      · rcases hc.1 with h1 | h1
        · exact .one (by rw [← h1]; exact he)
        · exact .next (h.sound _ h1) (by exact he)
  · exact h
theorem BlOk.pass {n : Nat} {E : List (Int × Int)} {nd : Int} (hr : ∀ e ∈ E, (1 ≤ e.1 ∧ e.1 ≤ (n : Int)) ∧ (1 ≤ e.2 ∧ e.2 ≤ (n : Int))) (E' : List (Int × Int)) (hs : ∀ e ∈ E', e ∈ E) : ∀ f, BlOk n E nd f → BlOk n E nd (blP nd E' f) := by
  induction E' with
  | nil => exact fun f h => h
  | cons e E' ih => exact fun f h => ih (fun e' he' => hs e' (List.mem_cons_of_mem _ he')) _ (h.step hr (hs e List.mem_cons_self))
theorem blT_ok {n : Nat} {E : List (Int × Int)} {nd : Int} (hr : ∀ e ∈ E, (1 ≤ e.1 ∧ e.1 ≤ (n : Int)) ∧ (1 ≤ e.2 ∧ e.2 ≤ (n : Int))) (k : Nat) : BlOk n E nd (blT nd E k) := by
  induction k with
  | zero => exact ⟨List.nodup_nil, fun x hx => (by cases hx), fun x hx => (by cases hx)⟩
  | succ k ih => exact BlOk.pass hr E (fun _ h => h) _ ih
theorem BlOk.len {n : Nat} {E : List (Int × Int)} {nd : Int} {f : List Int} (h : BlOk n E nd f) : f.length ≤ n := nodup_le n f h.nodup h.range
theorem blT_fix {n : Nat} {E : List (Int × Int)} {nd : Int} (hr : ∀ e ∈ E, (1 ≤ e.1 ∧ e.1 ≤ (n : Int)) ∧ (1 ≤ e.2 ∧ e.2 ≤ (n : Int))) : ∀ e ∈ E, bl1 nd (blT nd E (n + 1)) e = blT nd E (n + 1) := by
  have : ∀ k, (∀ e ∈ E, bl1 nd (blT nd E k) e = blT nd E k) ∨ k ≤ (blT nd E k).length := by
    intro k
    induction k with
    | zero => exact .inr (Nat.zero_le _)
    | succ k ih =>
      obtain ⟨h1, h2⟩ := blP_len nd E (blT nd E k)
      rcases ih with ih | ih
      · left
        have e : blT nd E (k + 1) = blT nd E k := blP_fix nd E _ ih
        rw [e]; exact ih
      · by_cases h : (blP nd E (blT nd E k)).length = (blT nd E k).length
        · left
          have e : blT nd E (k + 1) = blT nd E k := blP_fix nd E _ (h2 h)
          rw [e]; exact h2 h
        · right
          show k + 1 ≤ (blP nd E (blT nd E k)).length
          omega
  rcases this (n + 1) with h | h
  · exact h
  · have := (blT_ok hr (nd := nd) (n + 1)).len
    omega
theorem blT_rch {n : Nat} {E : List (Int × Int)} {nd : Int} (hr : ∀ e ∈ E, (1 ≤ e.1 ∧ e.1 ≤ (n : Int)) ∧ (1 ≤ e.2 ∧ e.2 ≤ (n : Int))) (x : Int) : x ∈ blT nd E (n + 1) ↔ Rch E nd x := by
  constructor
  · exact (blT_ok hr (n + 1)).sound x
  · have hf := blT_fix hr (nd := nd)
    have key : ∀ e ∈ E, (e.1 = nd ∨ e.1 ∈ blT nd E (n + 1)) → e.2 ∈ blT nd E (n + 1) := by
      intro e he h
      have h1 := hf e he
      unfold bl1 at h1
      by_cases hc : e.2 ∈ blT nd E (n + 1)
      · exact hc
      · rw [if_pos ⟨h, hc⟩] at h1
        have := congrArg List.length h1
        rw [List.length_append] at this
        simp at this
    intro h
    induction h with
    | one e => exact key _ e (.inl rfl)
    | next _ e ih => exact key _ e (.inr ih)
theorem blP_snoc (nd : Int) (E : List (Int × Int)) (f : List Int) (i : Nat) (h : i < E.length) : blP nd (E.take (i + 1)) f = bl1 nd (blP nd (E.take i) f) (E.getD i (0, 0)) := by
  rw [take_snoc E i h]; unfold blP; rw [List.foldl_append]; rfl
theorem bl1_yes {nd p q : Int} {f : List Int} (h : p = nd ∨ f.contains p = true) (hq : f.contains q = false) : bl1 nd f (p, q) = f ++ [q] := by
  unfold bl1
  rw [if_pos ⟨by simpa using h, by simpa using hq⟩]
theorem bl1_no1 {nd p q : Int} {f : List Int} (h : ¬ p = nd) (h2 : f.contains p = false) : bl1 nd f (p, q) = f := by
  unfold bl1
  rw [if_neg (fun hc => by
    rcases hc.1 with h3 | h3
    · exact h h3
    · simp at h2; exact h2 h3)]
theorem bl1_no2 {nd p q : Int} {f : List Int} (h2 : f.contains q = true) : bl1 nd f (p, q) = f := by
  unfold bl1
  rw [if_neg (fun hc => hc.2 (by simpa using h2))]
set_option maxRecDepth 100000 in
set_option maxHeartbeats 8000000 in
theorem refBelow_core (n : Int) (a : Option Addr) (cap : Nat) (l : List (Int × Int)) (nd : Int) (w : World) (ha : Prs w a l) :
    Calls Try.prog 15 #[.int .i64 n, .slice a l.length cap, .int .i64 nd] w (ListOut (belRes n l nd) w) := by
  have CM := Lib.hid (may_any n a cap l w ha)
  have HA := Lib.hid ha
  clear ha
  by_cases hg : Good n l
  · rw [decide_eq_true hg] at CM
    obtain ⟨N, hN⟩ : ∃ N : Nat, n = (N : Int) := ⟨n.toNat, by have := hg.1; omega⟩
    subst hN
    have HG := Lib.hid hg
    have hN64 : (N : Int) < 65 := by have := hg.2.1; omega
    have hL : l.length ≤ 256 := hg.2.2.1
    have hL1 : (l.length : Int) < 257 := by omega
    by_cases h1 : nd < 1
    · have d1 : decide (nd < 1) = true := decide_eq_true h1
      have HR : Hid (belRes (N : Int) l nd = ([], 1)) := by
        show _ = _
        unfold belRes
        rw [if_neg (fun h => by omega)]
      clear h1 hg
      go_enter Try.func15, Try.ntmps15
      go_wp2_with (go_at_call 21; ((with_reducible refine CM.out.mono ?_); rintro e w1 ⟨rfl, hB1⟩; have HB1 := Lib.hid hB1; clear hB1))
      go_ret2
      rw [HR.out]
      exact ⟨_, _, rfl, fun i hi => absurd hi (Nat.not_lt_zero i), HB1.out⟩
    · by_cases h2 : (N : Int) < nd
      · have d1 : decide (nd < 1) = false := decide_eq_false h1
        have d2 : decide ((N : Int) < nd) = true := decide_eq_true h2
        have HR : Hid (belRes (N : Int) l nd = ([], 1)) := by
          show _ = _
          unfold belRes
          rw [if_neg (fun h => by omega)]
        clear h1 h2 hg
        go_enter Try.func15, Try.ntmps15
        go_wp2_with (go_at_call 21; ((with_reducible refine CM.out.mono ?_); rintro e w1 ⟨rfl, hB1⟩; have HB1 := Lib.hid hB1; clear hB1))
        go_ret2
        rw [HR.out]
        exact ⟨_, _, rfl, fun i hi => absurd hi (Nat.not_lt_zero i), HB1.out⟩
      · have d1 : decide (nd < 1) = false := decide_eq_false h1
        have d2 : decide ((N : Int) < nd) = false := decide_eq_false h2
        have HR : Hid (belRes (N : Int) l nd = (belTo l nd N, 0)) := by
          show _ = _
          unfold belRes
          rw [if_pos ⟨hg, by omega, by omega⟩, Int.toNat_natCast]
        rw [HR.out]
        have HP := Lib.hid hg.pairs
        simp only [Int.toNat_natCast] at HP
        obtain ⟨i0, hi, hz0, hz1, hz2⟩ := info_parts info3
        have HOK : Hid (∀ k, BlOk N l nd (blT nd l k)) := blT_ok HP.out
        have HOI : Hid (∀ k i, BlOk N l nd (blP nd (l.take i) (blT nd l k))) := fun k i => BlOk.pass HP.out _ (fun e he => List.mem_of_mem_take he) _ (HOK.out k)
        have HFN : Hid (∀ x, (blT nd l (N + 1)).contains x = true ↔ Rch l nd x) := fun x => by rw [← blT_rch HP.out]; simp
        clear h1 h2 hg
        go_enter Try.func15, Try.ntmps15
        go_wp2_with (go_at_call 21; ((with_reducible refine CM.out.mono ?_); rintro e w1 ⟨rfl, hB1⟩; have HB1 := Lib.hid hB1; clear hB1))
        go_loopg [8, 9] (N + 1) (fun gk v8 v9 wr => ∃ k : Nat, Hid (gk + k = N + 1) ∧ v9 = .int .i64 (k : Int) ∧ Hid (wr.ownsRow w.heap.size 3 1 v8 (blT nd l k).length ((blT nd l k).map (Value.int .i64))) ∧ Hid (Below w.heap.size w wr))
        case atStart => exact ⟨0, (by show _ = _; omega), rfl, World.ownsRow_nil _ _ _ _, HB1⟩
        case round =>
          obtain ⟨G0, rfl⟩ : ∃ G0 : Nat, G0 = gk := ⟨_, rfl⟩
          obtain ⟨k, hk, rfl, HO, HB⟩ := hrel
          by_cases hlt : k ≤ N
          · have hlt1 : (k : Int) ≤ (N : Int) := by omega
            replace hlt := Lib.hid hlt
            go_wp2
            go_loopg [8, 10] l.length (fun gk v8 v10 wr => ∃ i : Nat, Hid (gk + i = l.length) ∧ v10 = .int .i64 (i : Int) ∧ Hid (wr.ownsRow w.heap.size 3 1 v8 (blP nd (l.take i) (blT nd l k)).length ((blP nd (l.take i) (blT nd l k)).map (Value.int .i64))) ∧ Hid (Below w.heap.size w wr))
            case atStart => exact ⟨0, (by show _ = _; omega), rfl, HO, HB⟩
            case round =>
              obtain ⟨i, hi3, rfl, HO2, HB2⟩ := hrel
              have HF := Lib.hid (HOI.out k i)
              have hfl := HF.out.len
              by_cases hlti : i < l.length
              · obtain ⟨Gn, hGn⟩ : ∃ Gn, Hid (gk = Gn + 1) := ⟨gk - 1, by have := hi3.out; show _ = _; omega⟩
                obtain ⟨b, off, rfl, hb, c0, c1⟩ := (Prs.below HA.out HB2.out) i hlti
                have hlti1 : (i : Int) < (l.length : Int) := by omega
                have hi0 : (0 : Int) ≤ (i : Int) := by omega
                have HSN := Lib.hid (blP_snoc nd l (blT nd l k) i hlti)
                obtain ⟨p, hp⟩ : ∃ A, Hid ((l.getD i (0, 0)).1 = A) := ⟨_, rfl⟩
                obtain ⟨q, hq⟩ : ∃ A, Hid ((l.getD i (0, 0)).2 = A) := ⟨_, rfl⟩
                rw [show l.getD i (0, 0) = (p, q) from Prod.ext hp.out hq.out] at HSN
                rw [hp.out] at c0
                rw [hq.out] at c1
                generalize blP nd (l.take i) (blT nd l k) = f at *
                obtain ⟨av, cv, ev, hI⟩ := own_ints HO2.out
                have HI := Lib.hid hI
                rw [ev] at HO2 ⊢
                clear ev hI hlti
                have HFL : Hid (f.length ≤ 64) := by show _ ≤ _; omega
                have hfl1 : (f.length : Int) < 65 := by omega
                have CI : Hid (∀ x, Calls _ _ _ _ _) := fun x => in_any av cv f (by omega) x wr HI.out
                have HY : Hid ((p = nd ∨ f.contains p = true) → f.contains q = false → blP nd (l.take (i + 1)) (blT nd l k) = f ++ [q]) := fun h1 h2 => HSN.out.trans (bl1_yes h1 h2)
                have HN1 : Hid (¬ p = nd → f.contains p = false → blP nd (l.take (i + 1)) (blT nd l k) = f) := fun h1 h2 => HSN.out.trans (bl1_no1 h1 h2)
                have HN2 : Hid (f.contains q = true → blP nd (l.take (i + 1)) (blT nd l k) = f) := fun h2 => HSN.out.trans (bl1_no2 h2)
                have CP := Lib.hid (CI.out p)
                have CQ := Lib.hid (CI.out q)
                clear CI hfl
                by_cases g : p = nd
                · have d3 : (p == nd) = true := by simp [g]
                  have HG3 : Hid (p = nd ∨ f.contains p = true) := .inl g
                  clear g
                  cases hB2 : f.contains q with
                  | true =>
                    rw [hB2] at CQ
                    replace hB2 := Lib.hid hB2
                    have HE := Lib.hid (HN2.out hB2.out)
                    go_wp2_with (first
                      | (go_at_call 22; ((first | (with_reducible refine CP.out.mono ?_) | (with_reducible refine CQ.out.mono ?_)); rintro e w2 ⟨rfl, rfl⟩)))
                    go_roundg Gn
                    case measure => have := hGn.out; omega
                    case rel => exact ⟨i + 1, (by have := hGn.out; have := hi3.out; show _ = _; omega), by go_num, by rw [HE.out]; exact HO2, HB2⟩
                  | false =>
                    rw [hB2] at CQ
                    replace hB2 := Lib.hid hB2
                    have HE := Lib.hid (HY.out HG3.out hB2.out)
                    go_wp2_with (first
                      | (go_at_call 22; ((first | (with_reducible refine CP.out.mono ?_) | (with_reducible refine CQ.out.mono ?_)); rintro e w2 ⟨rfl, rfl⟩))
                      | (at_builtin; go_must (refine Own.list_one rfl (.tmp 63) (.tmp 69) 30 rfl w.heap.size 3 i0 _ 8 Try.underlying30 hi hz0 hz1 hz2 rfl _ _ _ rfl _ _ _ rfl (HO2.out.alloc _) (Own.cell_new _ _ _) rfl ?h1 ?h2 ?h3 ?_; (case h1 => have := HFL.out; unfold maxLen; omega); (case h2 => have := HFL.out; omega); (case h3 => have := HB2.out.size; simp; omega); intro v3' w4 hown4 hgrow4; have HB4 := Lib.hid ((below_al HB2.out _).grown hgrow4 (below_al HB2.out _).size (Own.own_block HO2.out (Nat.le_refl _))); have HO4 := Lib.hid hown4; clear hown4 hgrow4)))
                    go_roundg Gn
                    case measure => have := hGn.out; omega
                    case rel => exact ⟨i + 1, (by have := hGn.out; have := hi3.out; show _ = _; omega), by go_num, by rw [HE.out, List.length_append, List.map_append]; exact HO4, HB4⟩
                · have d3 : (p == nd) = false := beq_eq_false_iff_ne.2 g
                  replace g := Lib.hid g
                  cases hB1 : f.contains p with
                  | false =>
                    rw [hB1] at CP
                    replace hB1 := Lib.hid hB1
                    have HE := Lib.hid (HN1.out g.out hB1.out)
                    go_wp2_with (first
                      | (go_at_call 22; ((first | (with_reducible refine CP.out.mono ?_) | (with_reducible refine CQ.out.mono ?_)); rintro e w2 ⟨rfl, rfl⟩)))
                    go_roundg Gn
                    case measure => have := hGn.out; omega
                    case rel => exact ⟨i + 1, (by have := hGn.out; have := hi3.out; show _ = _; omega), by go_num, by rw [HE.out]; exact HO2, HB2⟩
                  | true =>
                    rw [hB1] at CP
                    have HG3 : Hid (p = nd ∨ f.contains p = true) := .inr hB1
                    replace hB1 := Lib.hid hB1
                    cases hB2 : f.contains q with
                    | true =>
                      rw [hB2] at CQ
                      replace hB2 := Lib.hid hB2
                      have HE := Lib.hid (HN2.out hB2.out)
                      go_wp2_with (first
                        | (go_at_call 22; ((first | (with_reducible refine CP.out.mono ?_) | (with_reducible refine CQ.out.mono ?_)); rintro e w2 ⟨rfl, rfl⟩)))
                      go_roundg Gn
                      case measure => have := hGn.out; omega
                      case rel => exact ⟨i + 1, (by have := hGn.out; have := hi3.out; show _ = _; omega), by go_num, by rw [HE.out]; exact HO2, HB2⟩
                    | false =>
                      rw [hB2] at CQ
                      replace hB2 := Lib.hid hB2
                      have HE := Lib.hid (HY.out HG3.out hB2.out)
                      go_wp2_with (first
                        | (go_at_call 22; ((first | (with_reducible refine CP.out.mono ?_) | (with_reducible refine CQ.out.mono ?_)); rintro e w2 ⟨rfl, rfl⟩))
                        | (at_builtin; go_must (refine Own.list_one rfl (.tmp 63) (.tmp 69) 30 rfl w.heap.size 3 i0 _ 8 Try.underlying30 hi hz0 hz1 hz2 rfl _ _ _ rfl _ _ _ rfl (HO2.out.alloc _) (Own.cell_new _ _ _) rfl ?h1 ?h2 ?h3 ?_; (case h1 => have := HFL.out; unfold maxLen; omega); (case h2 => have := HFL.out; omega); (case h3 => have := HB2.out.size; simp; omega); intro v3' w4 hown4 hgrow4; have HB4 := Lib.hid ((below_al HB2.out _).grown hgrow4 (below_al HB2.out _).size (Own.own_block HO2.out (Nat.le_refl _))); have HO4 := Lib.hid hown4; clear hown4 hgrow4)))
                      go_roundg Gn
                      case measure => have := hGn.out; omega
                      case rel => exact ⟨i + 1, (by have := hGn.out; have := hi3.out; show _ = _; omega), by go_num, by rw [HE.out, List.length_append, List.map_append]; exact HO4, HB4⟩
              · have hie : i = l.length := by have := hi3.out; omega
                have hge : ¬ (i : Int) < (l.length : Int) := by omega
                have HE : Hid (blP nd (l.take i) (blT nd l k) = blT nd l (k + 1)) := by show _ = _; rw [hie, List.take_length]; rfl
                have HGG : Hid (G0 = (G0 - 1) + 1) := by have := hk.out; have := hlt.out; show _ = _; omega
                clear hlti hie hfl
                go_wp2
                go_roundg (G0 - 1)
                case measure => have := HGG.out; omega
                case rel => exact ⟨k + 1, (by have := HGG.out; have := hk.out; show _ = _; omega), by go_num, by rw [← HE.out]; exact HO2, HB2⟩
          · have hge : ¬ (k : Int) ≤ (N : Int) := by omega
            have hkN : k = N + 1 := by have := hk.out; omega
            rw [hkN] at HO
            obtain ⟨av, cv, ev, hI⟩ := own_ints HO.out
            have HI := Lib.hid hI
            have hfl := (HOK.out (N + 1)).len
            have HRC := HFN
            generalize blT nd l (N + 1) = f at *
            rw [ev] at HO ⊢
            have CI : Hid (∀ (wx : World) (x : Int), Below wr.heap.size wr wx → _) := fun wx x hb => in_any av cv f (by omega) x wx (HI.out.below hb)
            have HYS : Hid (∀ k : Nat, f.contains ((k + 1 : Nat) : Int) = true → belTo l nd (k + 1) = belTo l nd k ++ [((k + 1 : Nat) : Int)]) := fun k h => belTo_yes ((HRC.out _).1 h)
            have HNS : Hid (∀ k : Nat, f.contains ((k + 1 : Nat) : Int) = false → belTo l nd (k + 1) = belTo l nd k) := fun k h => belTo_no fun hc => by rw [(HRC.out _).2 hc] at h; cases h
            have HBL : Hid (∀ k : Nat, (belTo l nd k).length ≤ k) := belTo_len l nd
            have HZ0 : Hid (belTo l nd 0 = []) := rfl
            clear ev hI hfl hkN hlt HFN HRC HOK HOI
            generalize belTo l nd = bl at *
            obtain ⟨wo, rfl⟩ : ∃ wo : World, wo = wr := ⟨_, rfl⟩
            go_wp2
            go_loopw [11, 12] (fun v11 v12 wx => ∃ j : Nat, j ≤ N ∧ v12 = .int .i64 ((j + 1 : Nat) : Int) ∧ Hid (wx.ownsRow wo.heap.size 3 1 v11 (bl j).length ((bl j).map (Value.int .i64))) ∧ Hid (Below wo.heap.size wo wx)) (fun _ v12 _ => N + 1 - (intOf v12).toNat)
            case atStart => exact ⟨0, by omega, rfl, by rw [HZ0.out]; exact World.ownsRow_nil _ _ _ _, Below.refl _ _⟩
            case round =>
              obtain ⟨j, hj, rfl, HO5, HB5⟩ := hrel
              by_cases hltj : j < N
              · obtain ⟨K, hK⟩ : ∃ K : Int, Hid (((j + 1 : Nat) : Int) = K) := ⟨_, rfl⟩
                have hK1 : K ≤ (N : Int) := by have := hK.out; omega
                have hK0 : (0 : Int) ≤ K := by have := hK.out; omega
                have CX := Lib.hid (CI.out _ K HB5.out)
                have HY1 := Lib.hid (HYS.out j)
                have HN1 := Lib.hid (HNS.out j)
                have HBJ : Hid ((bl j).length ≤ 64) := Nat.le_trans (HBL.out j) (by omega)
                have HKS : Hid (((j + 1 + 1 : Nat) : Int) = K + 1 ∧ K.toNat = j + 1 ∧ j < N) := ⟨by have := hK.out; omega, by have := hK.out; omega, hltj⟩
                rw [hK.out] at HY1 HN1 ⊢
                cases hB : f.contains K with
                | true =>
                  rw [hB] at CX
                  have HE := Lib.hid (HY1.out hB)
                  replace hB := Lib.hid hB
                  clear hltj
                  go_wp2_with (first
                    | (go_at_call 22; ((with_reducible refine CX.out.mono ?_); rintro e w2 ⟨rfl, rfl⟩))
                    | (at_builtin; go_must (refine Own.list_one rfl (.tmp 79) (.tmp 81) 30 rfl wo.heap.size 3 i0 _ 8 Try.underlying30 hi hz0 hz1 hz2 rfl _ _ _ rfl _ _ _ rfl (HO5.out.alloc _) (Own.cell_new _ _ _) rfl ?h1 ?h2 ?h3 ?_; (case h1 => have := HBJ.out; unfold maxLen; omega); (case h2 => have := HBJ.out; omega); (case h3 => have := HB5.out.size; simp; omega); intro v3' w4 hown4 hgrow4; have HB4 := Lib.hid ((below_al HB5.out _).grown hgrow4 (below_al HB5.out _).size (Own.own_block HO5.out (Nat.le_refl _))); have HO4 := Lib.hid hown4; clear hown4 hgrow4)))
                  go_roundw
                  case rel => exact ⟨j + 1, HKS.out.2.2, by rw [HKS.out.1], by rw [HE.out, List.length_append, List.map_append]; exact HO4, HB4⟩
                  case measure => have := HKS.out; simp only [intOf]; omega
                | false =>
                  rw [hB] at CX
                  have HE := Lib.hid (HN1.out hB)
                  replace hB := Lib.hid hB
                  clear hltj
                  go_wp2_with (go_at_call 22; ((with_reducible refine CX.out.mono ?_); rintro e w2 ⟨rfl, rfl⟩))
                  go_roundw
                  case rel => exact ⟨j + 1, HKS.out.2.2, by rw [HKS.out.1], by rw [HE.out]; exact HO5, HB5⟩
                  case measure => have := HKS.out; simp only [intOf]; omega
              · have hje : j = N := by omega
                have hgj : ¬ ((j + 1 : Nat) : Int) ≤ (N : Int) := by omega
                obtain ⟨ao, co, eo, hI⟩ := own_ints HO5.out
                have HI5 := Lib.hid hI
                have HE : Hid (bl N = bl j) := by show _ = _; rw [hje]
                rw [eo]
                clear eo hI hltj hje
                go_wp2
                go_ret2
                rw [HE.out]
                exact ⟨_, _, rfl, HI5.out, HB.out.trans (HB5.out.mono HB.out.size)⟩
  · have HR : Hid (belRes n l nd = ([], 1)) := by
      show _ = _
      unfold belRes
      rw [if_neg (fun h => hg h.1)]
    rw [decide_eq_false hg] at CM
    clear hg
    go_enter Try.func15, Try.ntmps15
    go_wp2_with (go_at_call 21; ((with_reducible refine CM.out.mono ?_); rintro e w1 ⟨rfl, hB1⟩; have HB1 := Lib.hid hB1; clear hB1))
    go_ret2
    rw [HR.out]
    exact ⟨_, _, rfl, fun i hi => absurd hi (Nat.not_lt_zero i), HB1.out⟩
end Gra
end Go.Proofs.Ytjdkkldlghdojaa
