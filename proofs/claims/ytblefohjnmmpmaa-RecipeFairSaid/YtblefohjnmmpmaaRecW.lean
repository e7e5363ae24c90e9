/- The walk of the reference's normal stacks. -/
import Derived.Test.YtblefohjnmmpmaaRecN
namespace Go.Proofs.Ytblefohjnmmpmaa
open Go.RowKit
namespace Rec
theorem info30 : (Try.prog.info? 30).map (fun i => (i.zero, i.size, i.bytes)) = some (some (.agg #[.int .i64 0, .int .i64 0]), 2, 16) := by kernel_rfl
set_option maxRecDepth 100000 in
set_option maxHeartbeats 4000000 in
theorem norm_any (a : Option Addr) (cap : Nat) (l : List Stk) (hl : l.length ≤ 12) (w : World) (ha : Stks w a l) :
    Calls Try.prog 36 #[.slice a l.length cap] w fun e w' => NPost w w' 30 l e := by
  obtain ⟨i0, hi, hz0, hz1, hz2⟩ := info_parts info30
  have HA := Lib.hid ha
  clear ha
  go_enter Try.func36, Try.ntmps36
  go_wp2
  go_loop [4] (fun i => ∃ k : Nat, k ≤ l.length ∧ i = .int .i64 k ∧ Hid (∀ j, j < k → 1 ≤ (l.getD j (0, 0)).1 ∧ 0 ≤ (l.getD j (0, 0)).2)) (fun i => l.length - (intOf i).toNat)
  case atStart => exact ⟨0, by omega, rfl, fun j hj => by omega⟩
  case round =>
    obtain ⟨k, hk, rfl, HS⟩ := hrel
    by_cases hlt : k < l.length
    · obtain ⟨b, off, rfl, hbl, hc, hd⟩ := HA.out k hlt
      have hlt1 : (k : Int) < (l.length : Int) := by omega
      have hnf : Hid ((l.getD k (0, 0)).1 < 1 ∨ (l.getD k (0, 0)).2 < 0 → ¬ Fair l) := fun h hf => by
        have := fair_sane l hf k hlt
        omega
      have hy : Hid (1 ≤ (l.getD k (0, 0)).1 ∧ 0 ≤ (l.getD k (0, 0)).2 → ∀ j, j < k + 1 → 1 ≤ (l.getD j (0, 0)).1 ∧ 0 ≤ (l.getD j (0, 0)).2) := fun h j hj => by
        by_cases e : j = k
        · subst e; exact h
        · exact HS.out j (by omega)
      generalize (l.getD k (0, 0)).1 = T at *
      generalize (l.getD k (0, 0)).2 = Q at *
      by_cases g1 : T < 1
      · have d1 : decide (T < 1) = true := decide_eq_true g1
        go_wp2
        go_ret2
        exact ⟨_, _, rfl, Below.refl _ _, .inr (.inl ⟨rfl, hnf.out (.inl g1)⟩)⟩
      · have d1 : decide (T < 1) = false := decide_eq_false g1
        by_cases g2 : Q < 0
        · have d2 : decide (Q < 0) = true := decide_eq_true g2
          go_wp2
          go_ret2
          exact ⟨_, _, rfl, Below.refl _ _, .inr (.inl ⟨rfl, hnf.out (.inr g2)⟩)⟩
        · have d2 : decide (Q < 0) = false := decide_eq_false g2
          go_wp2
          go_round
          case rel => exact ⟨k + 1, by omega, by go_num, hy.out ⟨by omega, by omega⟩⟩
          case measure => simp [intOf]; omega
    · have hke : k = l.length := by omega
      rw [hke] at HS
      have HSane : Hid (Sane l) := HS.out
      clear HS hke hk
      go_wp2
      go_loopw [5, 6] (fun o x wr => ∃ (ol : List Stk) (La : Int), x = .int .i64 La ∧ wr.ownsRow w.heap.size 30 2 o ol.length (stkVals ol) ∧ Hid (NInv l ol La) ∧ Below w.heap.size w wr) (fun _ x _ => msr l (intOf x))
      case atStart => exact ⟨[], 0, rfl, ⟨rfl, .inl ⟨rfl, rfl⟩⟩, ninv_start l, Below.refl _ _⟩
      case round =>
        obtain ⟨ol, La, rfl, hown, HI, hb⟩ := hrel
        go_wp2
        go_loop [7, 8] (fun x i => ∃ k : Nat, k ≤ l.length ∧ i = .int .i64 k ∧ x = .int .i64 (nk l La k)) (fun _ i => l.length - (intOf i).toNat)
        case atStart => exact ⟨0, by omega, rfl, rfl⟩
        case round =>
          obtain ⟨k, hk, rfl, rfl⟩ := hrel
          by_cases hlt : k < l.length
          · obtain ⟨b, off, rfl, hbl, hc, hd⟩ := (Stks.below HA.out hb) k hlt
            have hlt1 : (k : Int) < (l.length : Int) := by omega
            have hn : Hid (nk l La (k + 1) = if La < (l.getD k (0, 0)).1 ∧ (nk l La k = 0 ∨ (l.getD k (0, 0)).1 < nk l La k) then (l.getD k (0, 0)).1 else nk l La k) := rfl
            generalize (l.getD k (0, 0)).1 = T at *
            generalize (l.getD k (0, 0)).2 = Q at *
            obtain ⟨p, hp⟩ : ∃ p, Hid (nk l La k = p) := ⟨_, rfl⟩
            rw [hp.out] at hn ⊢
            by_cases g1 : La < T
            · have d1 : decide (La < T) = true := decide_eq_true g1
              by_cases g2 : p = 0
              · have d2 : (p == 0) = true := beq_iff_eq.2 g2
                have hn1 : Hid (nk l La (k + 1) = T) := by show nk l La (k + 1) = T; rw [hn.out, if_pos ⟨g1, .inl g2⟩]
                subst g2
                go_wp2
                go_round
                case rel => exact ⟨k + 1, by omega, by go_num, by rw [hn1.out]⟩
                case measure => simp [intOf]; omega
              · have d2 : (p == 0) = false := beq_eq_false_iff_ne.2 g2
                by_cases g3 : T < p
                · have d3 : decide (T < p) = true := decide_eq_true g3
                  have hn1 : Hid (nk l La (k + 1) = T) := by show nk l La (k + 1) = T; rw [hn.out, if_pos ⟨g1, .inr g3⟩]
                  go_wp2
                  go_round
                  case rel => exact ⟨k + 1, by omega, by go_num, by rw [hn1.out]⟩
                  case measure => simp [intOf]; omega
                · have d3 : decide (T < p) = false := decide_eq_false g3
                  have hn1 : Hid (nk l La (k + 1) = p) := by show nk l La (k + 1) = p; rw [hn.out, if_neg (fun h => h.2.elim g2 g3)]
                  go_wp2
                  go_round
                  case rel => exact ⟨k + 1, by omega, by go_num, by rw [hn1.out]⟩
                  case measure => simp [intOf]; omega
            · have d1 : decide (La < T) = false := decide_eq_false g1
              have hn1 : Hid (nk l La (k + 1) = p) := by show nk l La (k + 1) = p; rw [hn.out, if_neg (fun h => g1 h.1)]
              go_wp2
              go_round
              case rel => exact ⟨k + 1, by omega, by go_num, by rw [hn1.out]⟩
              case measure => simp [intOf]; omega
          · have hke : k = l.length := by omega
            obtain ⟨x, hx⟩ : ∃ x, Hid (nk l La l.length = x) := ⟨_, rfl⟩
            have hx1 : Hid (nk l La k = x) := by rw [hke]; exact hx
            clear hke
            rw [hx1.out]
            by_cases hx0 : x = 0
            · have hE := ninv_end l ol La HSane.out HI.out (by rw [hx.out, hx0])
              subst hx0
              go_wp2
              go_ret2
              exact ⟨_, _, rfl, hb, .inl ⟨rfl, ol, hE.1, by have := HI.out.2.2.2.1; omega, hown, hE.2⟩⟩
            · have dx : (x == 0) = false := beq_eq_false_iff_ne.2 hx0
              go_wp2
              go_loop [9, 10] (fun n i => ∃ k : Nat, k ≤ l.length ∧ i = .int .i64 k ∧ n = .int .i64 (sm l x k) ∧ Hid (0 ≤ sm l x k ∧ sm l x k ≤ 1125899906842624)) (fun _ i => l.length - (intOf i).toNat)
              case atStart => exact ⟨0, by omega, rfl, rfl, by show 0 ≤ sm l x 0 ∧ sm l x 0 ≤ 1125899906842624; exact ⟨Int.le_refl 0, by show (0 : Int) ≤ 1125899906842624; omega⟩⟩
              case round =>
                obtain ⟨k, hk, rfl, rfl, HM⟩ := hrel
                by_cases hlt : k < l.length
                · obtain ⟨b, off, rfl, hbl, hc, hd⟩ := (Stks.below HA.out hb) k hlt
                  have hlt1 : (k : Int) < (l.length : Int) := by omega
                  have hQ0 := (HSane.out k hlt).2
                  have hn : Hid (sm l x (k + 1) = if (l.getD k (0, 0)).1 = x then sm l x k + (l.getD k (0, 0)).2 else sm l x k) := rfl
                  have hov : Hid ((l.getD k (0, 0)).1 = x → 1125899906842624 - sm l x k < (l.getD k (0, 0)).2 → ¬ Fair l) := fun e g hf => by
                    have := sm_fair_le l hf x k hlt e
                    have := (hf k hlt).2.2
                    omega
                  generalize (l.getD k (0, 0)).1 = T at *
                  generalize (l.getD k (0, 0)).2 = Q at *
                  generalize sm l x k = p at *
                  have hp := HM.out
                  obtain ⟨z, hz⟩ : ∃ z : Int, wrap64 (1125899906842624 - p) = z := ⟨_, rfl⟩
                  have hz' : Hid (z = 1125899906842624 - p) := by show z = _; rw [← hz]; unfold wrap64; omega
                  by_cases g1 : T = x
                  · have d1 : (T == x) = true := beq_iff_eq.2 g1
                    by_cases g2 : z < Q
                    · have d2 : decide (z < Q) = true := decide_eq_true g2
                      have hNF := hov.out g1 (by rw [← hz'.out]; exact g2)
                      subst g1
                      clear hp hQ0
                      go_wp2
                      go_ret2
                      exact ⟨_, _, rfl, hb, .inr (.inr ⟨rfl, hNF⟩)⟩
                    · have d2 : decide (z < Q) = false := decide_eq_false g2
                      have hz2 := hz'.out
                      obtain ⟨y, hy⟩ : ∃ y : Int, wrap64 (p + Q) = y := ⟨_, rfl⟩
                      have hy' : Hid (y = p + Q) := by show y = _; rw [← hy]; unfold wrap64; omega
                      have hn1 : Hid (sm l x (k + 1) = y) := by show sm l x (k + 1) = y; rw [hn.out, if_pos g1, hy'.out]
                      have HM1 : Hid (0 ≤ y ∧ y ≤ 1125899906842624) := by show 0 ≤ y ∧ y ≤ 1125899906842624; rw [hy'.out]; omega
                      subst g1
                      clear hp hQ0 hz2
                      go_wp2
                      go_round
                      case rel => exact ⟨k + 1, by omega, by go_num, by rw [hn1.out, hy], by rw [hn1.out]; exact HM1⟩
                      case measure => simp [intOf]; omega
                  · have d1 : (T == x) = false := beq_eq_false_iff_ne.2 g1
                    have hn1 : Hid (sm l x (k + 1) = p) := by show sm l x (k + 1) = p; rw [hn.out, if_neg g1]
                    clear hp hQ0
                    go_wp2
                    go_round
                    case rel => exact ⟨k + 1, by omega, by go_num, by rw [hn1.out], by rw [hn1.out]; exact HM⟩
                    case measure => simp [intOf]; omega
                · have hke : k = l.length := by omega
                  obtain ⟨q, hq⟩ : ∃ q, Hid (sm l x l.length = q) := ⟨_, rfl⟩
                  have hq1 : Hid (sm l x k = q) := by rw [hke]; exact hq
                  rw [hq1.out] at HM ⊢
                  clear hke
                  obtain ⟨hm, hi1, hi2⟩ := ninv_next l ol La HSane.out HI.out x q hx.out hx0 hq.out HM.out.2
                  have HMS := Lib.hid hm
                  have HL : Hid (ol.length ≤ 12) := by have := HI.out.2.2.2.1; show ol.length ≤ 12; omega
                  clear hm
                  by_cases hq0 : 0 < q
                  · have HI1 := Lib.hid (hi1 hq0)
                    have d1 : decide (0 < q) = true := decide_eq_true hq0
                    clear hi1 hi2
                    go_wp2_with (at_builtin; refine list_pair rfl (.tmp 95) (.tmp 99) 22 rfl w.heap.size 30 i0 _ 16 Try.underlying22 hi hz0 hz1 hz2 rfl _ ol.length _ rfl _ _ _ _ rfl (hown.alloc _) (pair_new _ _ _ _).1 (pair_new _ _ _ _).2 rfl rfl ?h1 ?h2 ?h3 ?_; (case h1 => have := HL.out; unfold maxLen; omega); (case h2 => have := HL.out; omega); (case h3 => have := hb.size; simp; omega); intro v' w2 hown2 hgrow2)
                    go_roundw
                    case rel => exact ⟨ol ++ [(x, q)], x, rfl, by rw [stkVals_append, List.length_append]; exact hown2, HI1, (below_al hb _).grown hgrow2 (below_al hb _).size (Own.own_block hown (Nat.le_refl _))⟩
                    case measure => exact HMS.out
                  · have HI2 := Lib.hid (hi2 hq0)
                    have d1 : decide (0 < q) = false := decide_eq_false hq0
                    clear hi1 hi2
                    go_wp2
                    go_roundw
                    case rel => exact ⟨ol, x, rfl, hown, HI2, hb⟩
                    case measure => exact HMS.out
end Rec
end Go.Proofs.Ytblefohjnmmpmaa
