/- Texts put together: RecW, RecS, RecC, RecD, RecF, RecM2. -/
import Derived.Test.YtiabnjmblcogmaaM00
import Derived.WalkArith
set_option linter.all false
section
namespace Go.Proofs.Ytiabnjmblcogmaa
open Go.RowKit
namespace Rec
theorem info30 : (Try.prog.info? 85).map (fun i => (i.zero, i.size, i.bytes)) = some (some (.agg #[.int .i64 0, .int .i64 0]), 2, 16) := by kernel_rfl
set_option maxRecDepth 100000 in
set_option maxHeartbeats 4000000 in
theorem norm_any (a : Option Addr) (cap : Nat) (l : List Stk) (hl : l.length ≤ 12) (w : World) (ha : Stks w a l) :
    Calls Try.prog 85 #[.slice a l.length cap] w fun e w' => NPost w w' 85 l e := by
  obtain ⟨i0, hi, hz0, hz1, hz2⟩ := info_parts info30
  have HA := Lib.hid ha
  clear ha
  go_enter Try.func85, Try.ntmps85
  go_wp2
  go_loop [4] (fun i => ∃ k : Nat, k ≤ l.length ∧ i = .int .i64 k ∧ Hid (∀ j, j < k → 1 ≤ (l.getD j (0, 0)).1 ∧ 0 ≤ (l.getD j (0, 0)).2)) (fun i => l.length - (intOf i).toNat)
  case atStart => exact ⟨0, by omega, rfl, fun j hj => by omega⟩
  case round =>
    obtain ⟨k, hk, rfl, HS⟩ := hrel
    by_cases hlt : k < l.length
    · obtain ⟨b, off, rfl, hbl, hc, hd⟩ := HA.out k hlt
      have hlt1 : (k : Int) < (l.length : Int) := by omega
      have hnf : Hid ((l.getD k (0, 0)).1 < 1 ∨ (l.getD k (0, 0)).2 < 0 → ¬ Fair l) := fun h hf => by
        have := fair_sane l hf k hlt
        omega
      have hy : Hid (1 ≤ (l.getD k (0, 0)).1 ∧ 0 ≤ (l.getD k (0, 0)).2 → ∀ j, j < k + 1 → 1 ≤ (l.getD j (0, 0)).1 ∧ 0 ≤ (l.getD j (0, 0)).2) := fun h j hj => by
        by_cases e : j = k
        · subst e; exact h
        · exact HS.out j (by omega)
      generalize (l.getD k (0, 0)).1 = T at *
      generalize (l.getD k (0, 0)).2 = Q at *
      by_cases g1 : T < 1
      · have d1 : decide (T < 1) = true := decide_eq_true g1
        go_wp2
        go_ret2
        exact ⟨_, _, rfl, Below.refl _ _, .inr (.inl ⟨rfl, hnf.out (.inl g1)⟩)⟩
      · have d1 : decide (T < 1) = false := decide_eq_false g1
        by_cases g2 : Q < 0
        · have d2 : decide (Q < 0) = true := decide_eq_true g2
          go_wp2
          go_ret2
          exact ⟨_, _, rfl, Below.refl _ _, .inr (.inl ⟨rfl, hnf.out (.inr g2)⟩)⟩
        · have d2 : decide (Q < 0) = false := decide_eq_false g2
          go_wp2
          go_round
          case rel => exact ⟨k + 1, by omega, by go_num, hy.out ⟨by omega, by omega⟩⟩
          case measure => simp [intOf]; omega
    · have hke : k = l.length := by omega
      rw [hke] at HS
      have HSane : Hid (Sane l) := HS.out
      clear HS hke hk
      go_wp2
      go_loopw [5, 6] (fun o x wr => ∃ (ol : List Stk) (La : Int), x = .int .i64 La ∧ wr.ownsRow w.heap.size 85 2 o ol.length (stkVals ol) ∧ Hid (NInv l ol La) ∧ Below w.heap.size w wr) (fun _ x _ => msr l (intOf x))
      case atStart => exact ⟨[], 0, rfl, ⟨rfl, .inl ⟨rfl, rfl⟩⟩, ninv_start l, Below.refl _ _⟩
      case round =>
        obtain ⟨ol, La, rfl, hown, HI, hb⟩ := hrel
        go_wp2
        go_loop [7, 8] (fun x i => ∃ k : Nat, k ≤ l.length ∧ i = .int .i64 k ∧ x = .int .i64 (nk l La k)) (fun _ i => l.length - (intOf i).toNat)
        case atStart => exact ⟨0, by omega, rfl, rfl⟩
        case round =>
          obtain ⟨k, hk, rfl, rfl⟩ := hrel
          by_cases hlt : k < l.length
          · obtain ⟨b, off, rfl, hbl, hc, hd⟩ := (Stks.below HA.out hb) k hlt
            have hlt1 : (k : Int) < (l.length : Int) := by omega
            have hn : Hid (nk l La (k + 1) = if La < (l.getD k (0, 0)).1 ∧ (nk l La k = 0 ∨ (l.getD k (0, 0)).1 < nk l La k) then (l.getD k (0, 0)).1 else nk l La k) := rfl
            generalize (l.getD k (0, 0)).1 = T at *
            generalize (l.getD k (0, 0)).2 = Q at *
            obtain ⟨p, hp⟩ : ∃ p, Hid (nk l La k = p) := ⟨_, rfl⟩
            rw [hp.out] at hn ⊢
            by_cases g1 : La < T
            · have d1 : decide (La < T) = true := decide_eq_true g1
              by_cases g2 : p = 0
              · have d2 : (p == 0) = true := beq_iff_eq.2 g2
                have hn1 : Hid (nk l La (k + 1) = T) := by show nk l La (k + 1) = T; rw [hn.out, if_pos ⟨g1, .inl g2⟩]
                subst g2
                go_wp2
                go_round
                case rel => exact ⟨k + 1, by omega, by go_num, by rw [hn1.out]⟩
                case measure => simp [intOf]; omega
              · have d2 : (p == 0) = false := beq_eq_false_iff_ne.2 g2
                by_cases g3 : T < p
                · have d3 : decide (T < p) = true := decide_eq_true g3
                  have hn1 : Hid (nk l La (k + 1) = T) := by show nk l La (k + 1) = T; rw [hn.out, if_pos ⟨g1, .inr g3⟩]
                  go_wp2
                  go_round
                  case rel => exact ⟨k + 1, by omega, by go_num, by rw [hn1.out]⟩
                  case measure => simp [intOf]; omega
                · have d3 : decide (T < p) = false := decide_eq_false g3
                  have hn1 : Hid (nk l La (k + 1) = p) := by show nk l La (k + 1) = p; rw [hn.out, if_neg (fun h => h.2.elim g2 g3)]
                  go_wp2
                  go_round
                  case rel => exact ⟨k + 1, by omega, by go_num, by rw [hn1.out]⟩
                  case measure => simp [intOf]; omega
            · have d1 : decide (La < T) = false := decide_eq_false g1
              have hn1 : Hid (nk l La (k + 1) = p) := by show nk l La (k + 1) = p; rw [hn.out, if_neg (fun h => g1 h.1)]
              go_wp2
              go_round
              case rel => exact ⟨k + 1, by omega, by go_num, by rw [hn1.out]⟩
              case measure => simp [intOf]; omega
          · have hke : k = l.length := by omega
            obtain ⟨x, hx⟩ : ∃ x, Hid (nk l La l.length = x) := ⟨_, rfl⟩
            have hx1 : Hid (nk l La k = x) := by rw [hke]; exact hx
            clear hke
            rw [hx1.out]
            by_cases hx0 : x = 0
            · have hE := ninv_end l ol La HSane.out HI.out (by rw [hx.out, hx0])
              subst hx0
              go_wp2
              go_ret2
              exact ⟨_, _, rfl, hb, .inl ⟨rfl, ol, hE.1, by have := HI.out.2.2.2.1; omega, hown, hE.2⟩⟩
            · have dx : (x == 0) = false := beq_eq_false_iff_ne.2 hx0
              go_wp2
              go_loop [9, 10] (fun n i => ∃ k : Nat, k ≤ l.length ∧ i = .int .i64 k ∧ n = .int .i64 (sm l x k) ∧ Hid (0 ≤ sm l x k ∧ sm l x k ≤ 1125899906842624)) (fun _ i => l.length - (intOf i).toNat)
              case atStart => exact ⟨0, by omega, rfl, rfl, by show 0 ≤ sm l x 0 ∧ sm l x 0 ≤ 1125899906842624; exact ⟨Int.le_refl 0, by show (0 : Int) ≤ 1125899906842624; omega⟩⟩
              case round =>
                obtain ⟨k, hk, rfl, rfl, HM⟩ := hrel
                by_cases hlt : k < l.length
                · obtain ⟨b, off, rfl, hbl, hc, hd⟩ := (Stks.below HA.out hb) k hlt
                  have hlt1 : (k : Int) < (l.length : Int) := by omega
                  have hQ0 := (HSane.out k hlt).2
                  have hn : Hid (sm l x (k + 1) = if (l.getD k (0, 0)).1 = x then sm l x k + (l.getD k (0, 0)).2 else sm l x k) := rfl
                  have hov : Hid ((l.getD k (0, 0)).1 = x → 1125899906842624 - sm l x k < (l.getD k (0, 0)).2 → ¬ Fair l) := fun e g hf => by
                    have := sm_fair_le l hf x k hlt e
                    have := (hf k hlt).2.2
                    omega
                  generalize (l.getD k (0, 0)).1 = T at *
                  generalize (l.getD k (0, 0)).2 = Q at *
                  generalize sm l x k = p at *
                  have hp := HM.out
                  obtain ⟨z, hz⟩ : ∃ z : Int, wrap64 (1125899906842624 - p) = z := ⟨_, rfl⟩
                  have hz' : Hid (z = 1125899906842624 - p) := by show z = _; rw [← hz]; unfold wrap64; omega
                  by_cases g1 : T = x
                  · have d1 : (T == x) = true := beq_iff_eq.2 g1
                    by_cases g2 : z < Q
                    · have d2 : decide (z < Q) = true := decide_eq_true g2
                      have hNF := hov.out g1 (by rw [← hz'.out]; exact g2)
                      subst g1
                      clear hp hQ0
                      go_wp2
                      go_ret2
                      exact ⟨_, _, rfl, hb, .inr (.inr ⟨rfl, hNF⟩)⟩
                    · have d2 : decide (z < Q) = false := decide_eq_false g2
                      have hz2 := hz'.out
                      obtain ⟨y, hy⟩ : ∃ y : Int, wrap64 (p + Q) = y := ⟨_, rfl⟩
                      have hy' : Hid (y = p + Q) := by show y = _; rw [← hy]; unfold wrap64; omega
                      have hn1 : Hid (sm l x (k + 1) = y) := by show sm l x (k + 1) = y; rw [hn.out, if_pos g1, hy'.out]
                      have HM1 : Hid (0 ≤ y ∧ y ≤ 1125899906842624) := by show 0 ≤ y ∧ y ≤ 1125899906842624; rw [hy'.out]; omega
                      subst g1
                      clear hp hQ0 hz2
                      go_wp2
                      go_round
                      case rel => exact ⟨k + 1, by omega, by go_num, by rw [hn1.out, hy], by rw [hn1.out]; exact HM1⟩
                      case measure => simp [intOf]; omega
                  · have d1 : (T == x) = false := beq_eq_false_iff_ne.2 g1
                    have hn1 : Hid (sm l x (k + 1) = p) := by show sm l x (k + 1) = p; rw [hn.out, if_neg g1]
                    clear hp hQ0
                    go_wp2
                    go_round
                    case rel => exact ⟨k + 1, by omega, by go_num, by rw [hn1.out], by rw [hn1.out]; exact HM⟩
                    case measure => simp [intOf]; omega
                · have hke : k = l.length := by omega
                  obtain ⟨q, hq⟩ : ∃ q, Hid (sm l x l.length = q) := ⟨_, rfl⟩
                  have hq1 : Hid (sm l x k = q) := by rw [hke]; exact hq
                  rw [hq1.out] at HM ⊢
                  clear hke
                  obtain ⟨hm, hi1, hi2⟩ := ninv_next l ol La HSane.out HI.out x q hx.out hx0 hq.out HM.out.2
                  have HMS := Lib.hid hm
                  have HL : Hid (ol.length ≤ 12) := by have := HI.out.2.2.2.1; show ol.length ≤ 12; omega
                  clear hm
                  by_cases hq0 : 0 < q
                  · have HI1 := Lib.hid (hi1 hq0)
                    have d1 : decide (0 < q) = true := decide_eq_true hq0
                    clear hi1 hi2
                    go_wp2_with (at_builtin; refine list_pair rfl (.tmp 95) (.tmp 99) 49 rfl w.heap.size 85 i0 _ 16 Try.underlying49 hi hz0 hz1 hz2 rfl _ ol.length _ rfl _ _ _ _ rfl (hown.alloc _) (pair_new _ _ _ _).1 (pair_new _ _ _ _).2 rfl rfl ?h1 ?h2 ?h3 ?_; (case h1 => have := HL.out; unfold maxLen; omega); (case h2 => have := HL.out; omega); (case h3 => have := hb.size; simp; omega); intro v' w2 hown2 hgrow2)
                    go_roundw
                    case rel => exact ⟨ol ++ [(x, q)], x, rfl, by rw [stkVals_append, List.length_append]; exact hown2, HI1, (below_al hb _).grown hgrow2 (below_al hb _).size (Own.own_block hown (Nat.le_refl _))⟩
                    case measure => exact HMS.out
                  · have HI2 := Lib.hid (hi2 hq0)
                    have d1 : decide (0 < q) = false := decide_eq_false hq0
                    clear hi1 hi2
                    go_wp2
                    go_roundw
                    case rel => exact ⟨ol, x, rfl, hown, HI2, hb⟩
                    case measure => exact HMS.out
end Rec
end Go.Proofs.Ytiabnjmblcogmaa
end
section
namespace Go.Proofs.Ytiabnjmblcogmaa
open Go.RowKit
namespace Rec
theorem below_dN {B : Nat} {a w : World} (h : Below B a w) (n : Nat) : Below B a (w.drewN n) := ⟨h.os, h.tape, h.output, h.size, h.block⟩
theorem ext_stk (l m : List Stk) (h : l.length = m.length) (hg : ∀ j, j < l.length → l.getD j (0, 0) = m.getD j (0, 0)) : l = m := by
  apply List.ext_getElem h
  intro j h1 h2
  have := hg j h1
  rwa [List.getD_eq_getElem?_getD, List.getD_eq_getElem?_getD, List.getElem?_eq_getElem h1, List.getElem?_eq_getElem h2] at this
set_option maxHeartbeats 1000000 in
theorem same_any (a b : Option Addr) (c1 c2 : Nat) (l m : List Stk) (hl : l.length ≤ 4096) (hm : m.length ≤ 4096) (w : World) (ha : Stks w a l) (hb : Stks w b m) :
    Calls Try.prog 86 #[.slice a l.length c1, .slice b m.length c2] w fun e w' => e = .returned (.bool (decide (l = m))) ∧ Below w.heap.size w w' := by
  have HA := Lib.hid ha
  have HB := Lib.hid hb
  clear ha hb
  by_cases hlen : l.length = m.length
  · rw [← hlen]
    have HLEN := Lib.hid hlen
    clear hlen
    go_enter Try.func86, Try.ntmps86
    go_wp2
    go_loopw [5] (fun i wr => ∃ k : Nat, k ≤ l.length ∧ i = .int .i64 k ∧ Hid (∀ j, j < k → l.getD j (0, 0) = m.getD j (0, 0)) ∧ Below w.heap.size w wr) (fun i _ => l.length - (intOf i).toNat)
    case atStart => exact ⟨0, by omega, rfl, fun j hj => by omega, Below.refl _ _⟩
    case round =>
      obtain ⟨k, hk, rfl, HE, hb⟩ := hrel
      by_cases hlt : k < l.length
      · obtain ⟨b1, o1, rfl, hbl1, hc1, hd1⟩ := (Stks.below HA.out hb) k hlt
        obtain ⟨b2, o2, rfl, hbl2, hc2, hd2⟩ := (Stks.below HB.out hb) k (by rw [← HLEN.out]; exact hlt)
        have hlt1 : (k : Int) < (l.length : Int) := by omega
        have e1 : decide ((k : Int) < (l.length : Int)) = true := decide_eq_true hlt1
        have hy : Hid ((l.getD k (0, 0)).1 = (m.getD k (0, 0)).1 ∧ (l.getD k (0, 0)).2 = (m.getD k (0, 0)).2 → ∀ j, j < k + 1 → l.getD j (0, 0) = m.getD j (0, 0)) := fun h j hj => by
          by_cases e : j = k
          · subst e; exact Prod.ext h.1 h.2
          · exact HE.out j (by omega)
        have hn : Hid (¬ ((l.getD k (0, 0)).1 = (m.getD k (0, 0)).1 ∧ (l.getD k (0, 0)).2 = (m.getD k (0, 0)).2) → decide (l = m) = false) := fun h => decide_eq_false fun e => h (by subst e; exact ⟨rfl, rfl⟩)
        generalize (l.getD k (0, 0)).1 = T1 at *
        generalize (l.getD k (0, 0)).2 = Q1 at *
        generalize (m.getD k (0, 0)).1 = T2 at *
        generalize (m.getD k (0, 0)).2 = Q2 at *
        by_cases g1 : T1 = T2
        · subst g1
          by_cases g2 : Q1 = Q2
          · subst g2
            have HY := Lib.hid (hy.out ⟨rfl, rfl⟩)
            go_wp2
            go_quiet (fail)
            go_wp2
            go_roundw
            case rel => exact ⟨k + 1, by omega, by go_num, HY, below_dN hb _⟩
            case measure => simp [intOf]; omega
          · have d2 : (Q1 == Q2) = false := beq_eq_false_iff_ne.2 g2
            have HN := Lib.hid (hn.out fun h => g2 h.2)
            go_wp2
            go_quiet (fail)
            go_wp2
            go_ret
            exact ⟨by rw [HN.out]; rfl, below_dN hb _⟩
        · have d1 : (T1 == T2) = false := beq_eq_false_iff_ne.2 g1
          have HN := Lib.hid (hn.out fun h => g1 h.1)
          go_wp2
          go_quiet (fail)
          go_wp2
          go_ret
          exact ⟨by rw [HN.out]; rfl, below_dN hb _⟩
      · have hke : k = l.length := by omega
        rw [hke] at HE
        have HN : Hid (decide (l = m) = true) := decide_eq_true (ext_stk l m HLEN.out HE.out)
        have n1 : ¬ (k : Int) < (l.length : Int) := by omega
        have e1 : decide ((k : Int) < (l.length : Int)) = false := decide_eq_false n1
        clear hke
        go_wp2
        go_ret
        exact ⟨by rw [HN.out]; rfl, hb⟩
  · have dl : ((l.length : Int) == (m.length : Int)) = false := beq_eq_false_iff_ne.2 (by omega)
    have hlen' : ¬ (l.length : Int) = (m.length : Int) := by omega
    have HN : Hid (decide (l = m) = false) := decide_eq_false fun e => hlen (by rw [e])
    go_enter Try.func86, Try.ntmps86
    go_wp2
    go_ret
    exact ⟨by rw [HN.out]; rfl, Below.refl _ _⟩
end Rec
end Go.Proofs.Ytiabnjmblcogmaa
end
section
namespace Go.Proofs.Ytiabnjmblcogmaa
open Go.RowKit
namespace Rec
theorem fair_goodTo (l : List Stk) (types : Int) (hf : Fair l) (hl : lastOf l l.length ≤ types) (n : Nat) (hn : n ≤ l.length) : goodTo l types n = true := by
  induction n with
  | zero => rfl
  | succ n ih =>
    rw [goodTo, ih (by omega), Bool.true_and]
    have h := hf n (by omega)
    refine (good_iff l types n).2 ⟨h.1, ?_, h.2.1, h.2.2⟩
    obtain ⟨k, hk⟩ : ∃ k, l.length = k + 1 := ⟨l.length - 1, by omega⟩
    rw [hk] at hl
    have e : lastOf l (k + 1) = (l.getD k (0, 0)).1 := rfl
    by_cases g : n = k
    · subst g; omega
    · have := fair_lt l hf n k (by omega) (by omega); omega
theorem chk_yes (l : List Stk) (types : Int) (hf : Fair l) (h8 : l.length ≤ 8) (hl : lastOf l l.length ≤ types) : chk l types = 0 := by
  unfold chk; rw [fair_goodTo l types hf hl _ (Nat.le_refl _), decide_eq_true h8]; rfl
theorem chk_unfair (l : List Stk) (types : Int) (hf : ¬ Fair l) : chk l types = 1 := by
  unfold chk
  cases h : goodTo l types l.length
  · rfl
  · exact absurd (fair_of l types h) hf
theorem chk_last (l : List Stk) (types : Int) (h0 : 0 < l.length) (hl : types < lastOf l l.length) : chk l types = 1 := by
  unfold chk
  obtain ⟨k, hk⟩ : ∃ k, l.length = k + 1 := ⟨l.length - 1, by omega⟩
  have e : lastOf l (k + 1) = (l.getD k (0, 0)).1 := rfl
  rw [hk] at hl
  have : good l types k = false := by
    cases h : good l types k
    · rfl
    · have := ((good_iff l types k).1 h).2.1; omega
  rw [goodTo_no l types k _ this (by omega)]; rfl
theorem chk_long (l : List Stk) (types : Int) (h8 : ¬ l.length ≤ 8) : chk l types = 1 := by
  unfold chk; rw [decide_eq_false h8, Bool.and_false]; rfl
/-- What Norm's answer says of the check. -/
theorem norm_cases {w w1 : World} {T : TypeId} {l : List Stk} {v : Value} {en : Int} (types : Int) (h8 : l.length ≤ 8)
    (h : (en = 0 ∧ ∃ o, Fair o ∧ o.length ≤ l.length ∧ w1.ownsRow w.heap.size T 2 v o.length (stkVals o) ∧ (Fair l → o = l)) ∨ (en = 1 ∧ ¬ Fair l) ∨ (en = 5 ∧ ¬ Fair l)) :
    (en = 0 ∧ ∃ a2 c2 o, v = .slice a2 o.length c2 ∧ Hid (Stks w1 a2 o) ∧ Hid (o.length ≤ 4096) ∧
      ((Hid (decide (o = l) = false) ∧ Hid (chk l types = 1)) ∨ (Hid (decide (o = l) = true) ∧ Hid (l.length = 0) ∧ Hid (chk l types = 0)) ∨
        (Hid (decide (o = l) = true) ∧ ∃ k, Hid (l.length = k + 1) ∧ (types < (l.getD k (0, 0)).1 ∧ Hid (chk l types = 1) ∨ ¬ types < (l.getD k (0, 0)).1 ∧ Hid (chk l types = 0))))) ∨
    (en = 1 ∧ Hid (chk l types = 1)) ∨ (en = 5 ∧ Hid (chk l types = 1)) := by
  rcases h with ⟨h0, o, hFo, hol, hown, hEq⟩ | ⟨h0, hNF⟩ | ⟨h0, hNF⟩
  · obtain ⟨a2, c2, hv, hst⟩ := stks_of_own hown
    refine .inl ⟨h0, a2, c2, o, hv, hst, (show o.length ≤ 4096 by omega), ?_⟩
    by_cases e : o = l
    · subst e
      by_cases hz : o.length = 0
      · refine .inr (.inl ⟨decide_eq_true rfl, hz, ?_⟩)
        show chk o types = 0
        unfold chk
        rw [hz]; rfl
      · obtain ⟨k, hk⟩ : ∃ k, o.length = k + 1 := ⟨o.length - 1, by omega⟩
        refine .inr (.inr ⟨decide_eq_true rfl, k, hk, ?_⟩)
        have e : lastOf o (k + 1) = (o.getD k (0, 0)).1 := rfl
        by_cases g : types < (o.getD k (0, 0)).1
        · exact .inl ⟨g, chk_last o types (by omega) (by rw [hk, e]; exact g)⟩
        · exact .inr ⟨g, chk_yes o types hFo h8 (by rw [hk, e]; omega)⟩
    · exact .inl ⟨decide_eq_false e, chk_unfair l types fun hf => e (hEq hf)⟩
  · exact .inr (.inl ⟨h0, chk_unfair l types hNF⟩)
  · exact .inr (.inr ⟨h0, chk_unfair l types hNF⟩)
set_option maxHeartbeats 1000000 in
theorem refCheck_core (n : Nat) (a : Option Addr) (cap : Nat) (l : List Stk) (hn : l.length = n) (hl : l.length ≤ 12) (types : Int) (w : World) (ha : Stks w a l) :
    Calls Try.prog 65 #[.slice a n cap, .int .i64 types] w fun e w' => e = .returned (.int .i64 (chk l types)) ∧ Below w.heap.size w w' := by
  by_cases h8 : n ≤ 8
  · have d8 : decide (8 < (n : Int)) = false := decide_eq_false (by omega)
    have CN : Hid (Calls Try.prog 85 #[.slice a n cap] w fun e w' => NPost w w' 85 l e) := by
      have := norm_any a cap l hl w ha
      rw [hn] at this
      exact this
    have CS : Hid (∀ (a2 : Option Addr) (c2 : Nat) (o : List Stk) (w1 : World), o.length ≤ 4096 → Stks w1 a2 o → Below w.heap.size w w1 → Calls Try.prog 86 #[.slice a2 o.length c2, .slice a n cap] w1 fun e w' => e = .returned (.bool (decide (o = l))) ∧ Below w1.heap.size w1 w') := by
      intro a2 c2 o w1 h1 h2 h3
      have := same_any a2 a c2 cap o l h1 (by omega) w1 h2 (ha.below h3)
      rw [hn] at this
      exact this
    have HA := Lib.hid ha
    have HL : Hid (l.length = n) := hn
    have H8 : Hid (l.length ≤ 8) := by show l.length ≤ 8; omega
    clear ha hl hn h8
    rcases Nat.eq_zero_or_pos n with rfl | hpos
    · go_enter Try.func65, Try.ntmps65
      go_wp2_with (first
        | (go_at_call 85; ((with_reducible refine CN.out.mono ?_); rintro e w1 ⟨v, en, rfl, hb1, HN⟩; rcases norm_cases types H8.out HN with ⟨rfl, a2, c2, o, rfl, hst, ho, ⟨hd, hc⟩ | ⟨hd, hz, hc⟩ | ⟨hd, k, hk, ⟨hg, hc⟩ | ⟨hg, hc⟩⟩⟩ | ⟨rfl, hc⟩ | ⟨rfl, hc⟩))
        | (go_at_call 86; ((with_reducible refine (CS.out _ _ _ _ ho.out hst.out hb1).mono ?_); rintro e w2 ⟨rfl, hb2⟩; rw [hd.out])))
      · go_ret; exact ⟨by rw [hc.out]; rfl, below2 hb1 hb2⟩
      · go_ret; exact ⟨by rw [hc.out]; rfl, below2 hb1 hb2⟩
      · exfalso; have := hk.out; have := HL.out; omega
      · exfalso; have := hk.out; have := HL.out; omega
      · go_ret; exact ⟨by rw [hc.out]; rfl, hb1⟩
      · go_ret; exact ⟨by rw [hc.out]; rfl, hb1⟩
    · obtain ⟨k0, rfl⟩ : ∃ k0, n = k0 + 1 := ⟨n - 1, by omega⟩
      obtain ⟨b, off, rfl, hbl, hcT, hcQ⟩ := HA.out k0 (by rw [HL.out]; omega)
      have i1 : (0 : Int) < (k0 : Int) + 1 := by omega
      have i2 : decide ((0 : Int) < (k0 : Int) + 1) = true := decide_eq_true i1
      have i3 : Hid (∀ k, Hid (l.length = k + 1) → k = k0) := fun k h => by have := h.out; have := HL.out; omega
      have i4 : ¬ (8 : Int) < (k0 : Int) + 1 := by have := H8.out; have := HL.out; omega
      have i5 : decide ((8 : Int) < (k0 : Int) + 1) = false := decide_eq_false i4
      clear hpos hcQ d8
      go_enter Try.func65, Try.ntmps65
      go_wp2_with (first
        | (go_at_call 85; ((with_reducible refine CN.out.mono ?_); rintro e w1 ⟨v, en, rfl, hb1, HN⟩; rcases norm_cases types H8.out HN with ⟨rfl, a2, c2, o, rfl, hst, ho, ⟨hd, hc⟩ | ⟨hd, hz, hc⟩ | ⟨hd, k, hk, ⟨hg, hc⟩ | ⟨hg, hc⟩⟩⟩ | ⟨rfl, hc⟩ | ⟨rfl, hc⟩; all_goals try (obtain rfl := i3.out k hk; generalize (l.getD k (0, 0)).1 = T at *; have dg : decide (types < T) = _ := (by first | exact decide_eq_true hg | exact decide_eq_false hg))))
        | (go_at_call 86; ((with_reducible refine (CS.out _ _ _ _ ho.out hst.out hb1).mono ?_); rintro e w2 ⟨rfl, hb2⟩; rw [hd.out]; have cT := ((below2 hb1 hb2).cell hbl).trans hcT)))
      all_goals first
        | (exfalso; have h1 := hz.out; have h2 := HL.out; omega)
        | (go_ret; exact ⟨by rw [hc.out]; rfl, by first | exact below2 hb1 hb2 | exact hb1⟩)
  · have d8 : decide (8 < (n : Int)) = true := decide_eq_true (by omega)
    have HC := Lib.hid (chk_long l types (by omega))
    clear hn hl
    go_enter Try.func65, Try.ntmps65
    go_wp2
    go_ret
    exact ⟨by rw [HC.out]; rfl, Below.refl _ _⟩
theorem refCheck_any (a : Option Addr) (cap : Nat) (l : List Stk) (hl : l.length ≤ 12) (types : Int) (w : World) (ha : Stks w a l) :
    Calls Try.prog 65 #[.slice a l.length cap, .int .i64 types] w fun e w' => e = .returned (.int .i64 (chk l types)) ∧ Below w.heap.size w w' := refCheck_core l.length a cap l rfl hl types w ha
end Rec
end Go.Proofs.Ytiabnjmblcogmaa
end
section
namespace Go.Proofs.Ytiabnjmblcogmaa
open Go.RowKit
namespace Rec
theorem norm_fair {w w1 : World} {T : TypeId} {l : List Stk} {e : Ending} (hf : Fair l) (h : NPost w w1 T l e) : ∃ a2 c2, e = .returned (.tuple #[.slice a2 l.length c2, .int .i64 0]) ∧ Below w.heap.size w w1 ∧ Hid (Stks w1 a2 l) := by
  obtain ⟨v, en, rfl, hb, h⟩ := h
  rcases h with ⟨rfl, o, hFo, hol, hown, hEq⟩ | ⟨h0, hNF⟩ | ⟨h0, hNF⟩
  · obtain rfl := hEq hf
    obtain ⟨a2, c2, rfl, hst⟩ := stks_of_own hown
    exact ⟨a2, c2, rfl, hb, hst⟩
  · exact absurd hf hNF
  · exact absurd hf hNF
set_option maxHeartbeats 1000000 in
theorem refCount_any (a : Option Addr) (cap : Nat) (l : List Stk) (hl : l.length ≤ 12) (hf : Fair l) (x : Int) (w : World) (ha : Stks w a l) :
    Calls Try.prog 83 #[.slice a l.length cap, .int .i64 x] w fun e w' => e = .returned (.int .i64 (cnt l x l.length)) ∧ Below w.heap.size w w' := by
  have CN : Hid (Calls Try.prog 85 #[.slice a l.length cap] w fun e w' => ∃ a2 c2, e = .returned (.tuple #[.slice a2 l.length c2, .int .i64 0]) ∧ Below w.heap.size w w' ∧ Hid (Stks w' a2 l)) := (norm_any a cap l hl w ha).mono fun e w1 h => norm_fair hf h
  have HF := Lib.hid hf
  clear ha hf
  go_enter Try.func83, Try.ntmps83
  go_wp2_with (go_at_call 85; ((with_reducible refine CN.out.mono ?_); rintro e w1 ⟨a2, c2, rfl, hb1, HS⟩))
  go_loop [7] (fun i => ∃ k : Nat, k ≤ l.length ∧ i = .int .i64 k ∧ Hid (∀ j, j < k → (l.getD j (0, 0)).1 ≠ x)) (fun i => l.length - (intOf i).toNat)
  case atStart => exact ⟨0, by omega, rfl, fun j hj => by omega⟩
  case round =>
    obtain ⟨k, hk, rfl, HE⟩ := hrel
    by_cases hlt : k < l.length
    · obtain ⟨b, off, rfl, hbl, hc, hd⟩ := HS.out k hlt
      have hlt1 : (k : Int) < (l.length : Int) := by omega
      have hy : Hid ((l.getD k (0, 0)).1 ≠ x → ∀ j, j < k + 1 → (l.getD j (0, 0)).1 ≠ x) := fun h j hj => by
        by_cases e : j = k
        · subst e; exact h
        · exact HE.out j (by omega)
      have hn : Hid ((l.getD k (0, 0)).1 = x → cnt l x l.length = (l.getD k (0, 0)).2) := fun h => cnt_some l HF.out x k _ hlt (Nat.le_refl _) h
      generalize (l.getD k (0, 0)).1 = T at *
      generalize (l.getD k (0, 0)).2 = Q at *
      by_cases g : T = x
      · have d : (T == x) = true := beq_iff_eq.2 g
        have HN := Lib.hid (hn.out g)
        subst g
        go_wp2
        go_ret
        exact ⟨by rw [HN.out]; rfl, hb1⟩
      · have d : (T == x) = false := beq_eq_false_iff_ne.2 g
        have HY := Lib.hid (hy.out g)
        go_wp2
        go_round
        case rel => exact ⟨k + 1, by omega, by go_num, HY⟩
        case measure => simp [intOf]; omega
    · have hke : k = l.length := by omega
      rw [hke] at HE
      have HN := Lib.hid (cnt_none l x l.length HE.out)
      clear hke
      go_wp2
      go_ret
      exact ⟨by rw [HN.out]; rfl, hb1⟩
end Rec
end Go.Proofs.Ytiabnjmblcogmaa
end
section
namespace Go.Proofs.Ytiabnjmblcogmaa
open Go.RowKit
namespace Rec
abbrev Bnd := Int × Int × Int
/-- The bounds that stand from an address on. -/
def Bnds (w : World) (a : Option Addr) (l : List Bnd) : Prop :=
  ∀ i, i < l.length → ∃ b off, a = some ⟨b, off, none⟩ ∧ b < w.heap.size ∧ w.cell? ⟨b, off + i * 3, none⟩ = some (.int .i64 (l.getD i (0, 0, 0)).1) ∧ w.cell? ⟨b, off + i * 3 + 1, none⟩ = some (.int .i64 (l.getD i (0, 0, 0)).2.1) ∧ w.cell? ⟨b, off + i * 3 + 2, none⟩ = some (.int .i64 (l.getD i (0, 0, 0)).2.2)
theorem Bnds.below {w w' : World} {a : Option Addr} {l : List Bnd} (h : Bnds w a l) (hb : Below w.heap.size w w') : Bnds w' a l := fun i hi => by
  obtain ⟨b, off, ha, hlt, hc, hd, he⟩ := h i hi
  exact ⟨b, off, ha, Nat.lt_of_lt_of_le hlt hb.size, (hb.cell (p := ⟨b, off + i * 3, none⟩) hlt).trans hc, (hb.cell (p := ⟨b, off + i * 3 + 1, none⟩) hlt).trans hd, (hb.cell (p := ⟨b, off + i * 3 + 2, none⟩) hlt).trans he⟩
def inB (x : Bnd) : Bool := decide (x.2.1 ≤ x.1) && decide (x.1 ≤ x.2.2)
def fitsTo (l : List Bnd) : Nat → Bool
  | 0 => true
  | k + 1 => fitsTo l k && inB (l.getD k (0, 0, 0))
theorem fitsTo_no (l : List Bnd) (k j : Nat) (h : inB (l.getD k (0, 0, 0)) = false) (hj : k < j) : fitsTo l j = false := by
  induction j with
  | zero => omega
  | succ j ih =>
    rw [fitsTo]
    by_cases e : k = j
    · subst e; rw [h]; simp
    · rw [ih (by omega)]; rfl
set_option maxHeartbeats 1000000 in
theorem fits_any (a : Option Addr) (cap : Nat) (l : List Bnd) (hl : l.length ≤ maxLen) (w : World) (ha : Bnds w a l) :
    Calls Try.prog 87 #[.slice a l.length cap] w fun e w' => e = .returned (.bool (fitsTo l l.length)) ∧ Below w.heap.size w w' := by
  unfold maxLen at hl
  have HA := Lib.hid ha
  clear ha
  go_enter Try.func87, Try.ntmps87
  go_wp2
  go_loopw [7] (fun i wr => ∃ k : Nat, k ≤ l.length ∧ i = .int .i64 k ∧ Hid (fitsTo l k = true) ∧ Below w.heap.size w wr) (fun i _ => l.length - (intOf i).toNat)
  case atStart => exact ⟨0, by omega, rfl, rfl, Below.refl _ _⟩
  case round =>
    obtain ⟨k, hk, rfl, HG, hb⟩ := hrel
    by_cases hlt : k < l.length
    · obtain ⟨b, off, rfl, hbl, hc, hd, he⟩ := (Bnds.below HA.out hb) k hlt
      have hlt1 : (k : Int) < (l.length : Int) := by omega
      have hgn : Hid (fitsTo l (k + 1) = (fitsTo l k && inB (l.getD k (0, 0, 0)))) := rfl
      have hgd : Hid (inB (l.getD k (0, 0, 0)) = (decide ((l.getD k (0, 0, 0)).2.1 ≤ (l.getD k (0, 0, 0)).1) && decide ((l.getD k (0, 0, 0)).1 ≤ (l.getD k (0, 0, 0)).2.2))) := rfl
      have hno : inB (l.getD k (0, 0, 0)) = false → Hid (fitsTo l l.length = false) := fun h => fitsTo_no l k l.length h hlt
      generalize (l.getD k (0, 0, 0)).1 = X at *
      generalize (l.getD k (0, 0, 0)).2.1 = F at *
      generalize (l.getD k (0, 0, 0)).2.2 = T at *
      by_cases g1 : F ≤ X
      · have d1 : decide (X < F) = false := decide_eq_false (by omega)
        have n1 : ¬ X < F := by omega
        by_cases g2 : X ≤ T
        · have d2 : decide (T < X) = false := decide_eq_false (by omega)
          have n2 : ¬ T < X := by omega
          have hg : Hid (fitsTo l (k + 1) = true) := by show fitsTo l (k + 1) = true; rw [hgn.out, HG.out, hgd.out, decide_eq_true g1, decide_eq_true g2]; rfl
          clear hno
          go_wp2
          go_roundw
          case rel => exact ⟨k + 1, by omega, by go_num, hg, below_al hb _⟩
          case measure => simp [intOf]; omega
        · have d2 : decide (T < X) = true := decide_eq_true (by omega)
          have n2 : T < X := by omega
          have hg := hno (by rw [hgd.out, decide_eq_true g1, decide_eq_false g2]; rfl)
          clear hno
          go_wp2
          go_ret
          exact ⟨by rw [hg.out]; rfl, below_al hb _⟩
      · have d1 : decide (X < F) = true := decide_eq_true (by omega)
        have n1 : X < F := by omega
        have hg := hno (by rw [hgd.out, decide_eq_false g1]; rfl)
        clear hno
        go_wp2
        go_ret
        exact ⟨by rw [hg.out]; rfl, below_al hb _⟩
    · have hke : k = l.length := by omega
      rw [hke] at HG
      clear hke
      go_wp2
      go_ret
      exact ⟨by rw [HG.out]; rfl, hb⟩
end Rec
end Go.Proofs.Ytiabnjmblcogmaa
end
section
namespace Go.Proofs.Ytiabnjmblcogmaa
open Go.RowKit Go.Maps
namespace Rec
theorem law3 : Keyed Try.prog 3 := int_keyed Try.underlying3
theorem zero3 (w : World) : (zeroValue 3).run Try.prog w = .ok (.int .i64 0) w := by kernel_rfl
set_option maxRecDepth 100000 in
set_option maxHeartbeats 1000000 in
theorem counts_any (a : Option Addr) (cap : Nat) (l : List Stk) (hl : l.length ≤ maxLen) (hf : Fair l) (hw : ∀ k, k < l.length → (Lit.int .i64 (l.getD k (0, 0)).1).wf = true) (w : World) (ha : Stks w a l) :
    Calls Try.prog 99 #[.slice a l.length cap] w fun e w' => ∃ B, e = .returned (.tuple #[.map (some B), .int .i64 0]) ∧ w'.ownsMap Try.prog 3 (plainElem Try.prog 3) B l.length (DM l l.length) ∧ Below w.heap.size w w' := by
  have hmm := @run_makeMap Try.prog
  have CC := Lib.hid (contains_no a cap l hl hf w ha)
  unfold maxLen at hl
  have HA := Lib.hid ha
  have HF := Lib.hid hf
  have HW := Lib.hid hw
  clear ha hf hw
  go_enter Try.func99, Try.ntmps99
  go_wp2_with (go_at_call 105; ((with_reducible refine CC.out.mono ?_); rintro e w1 ⟨rfl, hb1⟩))
  go_loopw [5, 15] (fun o i wr => ∃ k : Nat, k ≤ l.length ∧ i = .int .i64 k ∧ o = .bool false ∧ wr.ownsMap Try.prog 3 (plainElem Try.prog 3) w1.heap.size k (DM l k) ∧ Below w.heap.size w wr) (fun _ i _ => l.length - (intOf i).toNat)
  case atStart => exact ⟨0, by omega, rfl, rfl, World.ownsMap_made _ _ _ _, below_al hb1 _⟩
  case round =>
    obtain ⟨k, hk, rfl, rfl, hown, hb⟩ := hrel
    by_cases hlt : k < l.length
    · obtain ⟨b, off, rfl, hbl, hc, hd⟩ := (Stks.below HA.out hb) k hlt
      have hlt1 : (k : Int) < (l.length : Int) := by omega
      have hp := fair_pos l HF.out k hlt
      have hq := (HF.out k hlt).2
      have hkey : keyOf Try.prog 3 (.int .i64 (l.getD k (0, 0)).1) = some (.int .i64 (l.getD k (0, 0)).1) := keyOf_int_mk Try.underlying3 (HW.out k hlt)
      have hnone : Hid (cnt l (l.getD k (0, 0)).1 k = 0) := cnt_none l _ k fun j hj => by have := fair_lt l HF.out j k hj hlt; omega
      have hat0 := dm_at l (l.getD k (0, 0)).1 k
      have hstep : Hid (DM l (k + 1) = (DM l k).put (.int .i64 (l.getD k (0, 0)).1) (.lit (.int .i64 (l.getD k (0, 0)).2))) := rfl
      generalize (l.getD k (0, 0)).1 = T at *
      generalize (l.getD k (0, 0)).2 = Q at *
      rw [hnone.out] at hat0
      have HAT := Lib.hid hat0
      clear hat0 hnone
      have AD := add_small 0 Q (Int.le_refl 0) (by omega) (by omega)
      rw [Int.zero_add] at AD
      have AD := Lib.hid AD
      have dq : decide (1125899906842624 < Q) = false := decide_eq_false (by omega)
      have nq : ¬ 1125899906842624 < Q := by omega
      have hwf : (Lit.int .i64 Q).wf = true := WalkArith.wf_i64 (by omega)
      have HKEY := Lib.hid hkey
      have HWF := Lib.hid hwf
      clear hkey hwf hq hp
      go_wp2_with (first
        | (at_lookup; refine wpList_lookup_own_int _ rfl _ _ 137 rfl 3 3 .i64 law3 Try.underlying137 Try.underlying3 (zero3 _) w1.heap.size k _ rfl (hown.alloc _) _ _ rfl HKEY.out ?_; intro c hat hwc; obtain rfl : c = 0 := by (have := hat.symm.trans HAT.out; simpa using this))
        | (go_at_call 74; ((with_reducible refine (AD.out _).mono ?_); rintro e w2 ⟨rfl, rfl⟩))
        | (at_mapUpdate; refine wpList_mapUpdate_own _ rfl _ _ _ 137 rfl 3 3 law3 Try.underlying137 _ w1.heap.size k _ rfl (hown.alloc _) (by unfold maxLen; omega) _ _ _ rfl rfl HKEY.out _ [] (plainElem_int Try.underlying3 HWF.out) ?_; intro w3 hown1 hgrow1))
      go_roundw
      case rel => exact ⟨k + 1, by omega, by go_num, rfl, by rw [hstep.out]; exact hown1, (below_al hb _).grown hgrow1 (below_al hb _).size (fun j hj => by cases hj; exact hb1.size)⟩
      case measure => simp [intOf]; omega
    · have hke : k = l.length := by omega
      subst hke
      go_wp2
      go_ret2
      exact ⟨_, rfl, hown, hb⟩
theorem count_any (a : Option Addr) (cap : Nat) (l : List Stk) (hl : l.length ≤ maxLen) (hf : Fair l) (hw : ∀ k, k < l.length → (Lit.int .i64 (l.getD k (0, 0)).1).wf = true) (x : Int) (hx : (Lit.int .i64 x).wf = true) (w : World) (ha : Stks w a l) :
    Calls Try.prog 91 #[.slice a l.length cap, .int .i64 x] w fun e w' => e = .returned (.int .i64 (cnt l x l.length)) ∧ Below w.heap.size w w' := by
  have CC := Lib.hid (counts_any a cap l hl hf hw w ha)
  have HKEY := Lib.hid (show keyOf Try.prog 3 (.int .i64 x) = some (.int .i64 x) from keyOf_int_mk Try.underlying3 hx)
  have HAT := Lib.hid (dm_at l x l.length)
  clear hl hf hw ha hx
  go_enter Try.func91, Try.ntmps91
  go_wp2_with (first
    | (go_at_call 99; ((with_reducible refine CC.out.mono ?_); rintro e w1 ⟨B, rfl, hown, hb1⟩))
    | (at_lookup; refine wpList_lookup_own_int _ rfl _ _ 137 rfl 3 3 .i64 law3 Try.underlying137 Try.underlying3 (zero3 _) B _ _ rfl hown _ _ rfl HKEY.out ?_; intro c hat hwc))
  have hc : c = cnt l x l.length := by have := hat.symm.trans HAT.out; simpa using this
  go_ret
  exact ⟨by rw [← hc]; rfl, hb1⟩
end Rec
end Go.Proofs.Ytiabnjmblcogmaa
end
