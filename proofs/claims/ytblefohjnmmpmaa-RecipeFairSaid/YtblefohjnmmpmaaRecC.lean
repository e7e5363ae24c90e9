/- The reference's check of stacks, and how many there are of a type. -/
import Derived.Test.YtblefohjnmmpmaaRecS
namespace Go.Proofs.Ytblefohjnmmpmaa
open Go.RowKit
namespace Rec
theorem fair_goodTo (l : List Stk) (types : Int) (hf : Fair l) (hl : lastOf l l.length ≤ types) (n : Nat) (hn : n ≤ l.length) : goodTo l types n = true := by
  induction n with
  | zero => rfl
  | succ n ih =>
    rw [goodTo, ih (by omega), Bool.true_and]
    have h := hf n (by omega)
    refine (good_iff l types n).2 ⟨h.1, ?_, h.2.1, h.2.2⟩
    obtain ⟨k, hk⟩ : ∃ k, l.length = k + 1 := ⟨l.length - 1, by omega⟩
    rw [hk] at hl
    have e : lastOf l (k + 1) = (l.getD k (0, 0)).1 := rfl
    by_cases g : n = k
    · subst g; omega
    · have := fair_lt l hf n k (by omega) (by omega); omega
theorem chk_yes (l : List Stk) (types : Int) (hf : Fair l) (h8 : l.length ≤ 8) (hl : lastOf l l.length ≤ types) : chk l types = 0 := by
  unfold chk; rw [fair_goodTo l types hf hl _ (Nat.le_refl _), decide_eq_true h8]; rfl
theorem chk_unfair (l : List Stk) (types : Int) (hf : ¬ Fair l) : chk l types = 1 := by
  unfold chk
  cases h : goodTo l types l.length
  · rfl
  · exact absurd (fair_of l types h) hf
theorem chk_last (l : List Stk) (types : Int) (h0 : 0 < l.length) (hl : types < lastOf l l.length) : chk l types = 1 := by
  unfold chk
  obtain ⟨k, hk⟩ : ∃ k, l.length = k + 1 := ⟨l.length - 1, by omega⟩
  have e : lastOf l (k + 1) = (l.getD k (0, 0)).1 := rfl
  rw [hk] at hl
  have : good l types k = false := by
    cases h : good l types k
    · rfl
    · have := ((good_iff l types k).1 h).2.1; omega
  rw [goodTo_no l types k _ this (by omega)]; rfl
theorem chk_long (l : List Stk) (types : Int) (h8 : ¬ l.length ≤ 8) : chk l types = 1 := by
  unfold chk; rw [decide_eq_false h8, Bool.and_false]; rfl
/-- What Norm's answer says of the check. -/
theorem norm_cases {w w1 : World} {T : TypeId} {l : List Stk} {v : Value} {en : Int} (types : Int) (h8 : l.length ≤ 8)
    (h : (en = 0 ∧ ∃ o, Fair o ∧ o.length ≤ l.length ∧ w1.ownsRow w.heap.size T 2 v o.length (stkVals o) ∧ (Fair l → o = l)) ∨ (en = 1 ∧ ¬ Fair l) ∨ (en = 5 ∧ ¬ Fair l)) :
    (en = 0 ∧ ∃ a2 c2 o, v = .slice a2 o.length c2 ∧ Hid (Stks w1 a2 o) ∧ Hid (o.length ≤ 4096) ∧
      ((Hid (decide (o = l) = false) ∧ Hid (chk l types = 1)) ∨ (Hid (decide (o = l) = true) ∧ Hid (l.length = 0) ∧ Hid (chk l types = 0)) ∨
        (Hid (decide (o = l) = true) ∧ ∃ k, Hid (l.length = k + 1) ∧ (types < (l.getD k (0, 0)).1 ∧ Hid (chk l types = 1) ∨ ¬ types < (l.getD k (0, 0)).1 ∧ Hid (chk l types = 0))))) ∨
    (en = 1 ∧ Hid (chk l types = 1)) ∨ (en = 5 ∧ Hid (chk l types = 1)) := by
  rcases h with ⟨h0, o, hFo, hol, hown, hEq⟩ | ⟨h0, hNF⟩ | ⟨h0, hNF⟩
  · obtain ⟨a2, c2, hv, hst⟩ := stks_of_own hown
    refine .inl ⟨h0, a2, c2, o, hv, hst, (show o.length ≤ 4096 by omega), ?_⟩
    by_cases e : o = l
    · subst e
      by_cases hz : o.length = 0
      · refine .inr (.inl ⟨decide_eq_true rfl, hz, ?_⟩)
        show chk o types = 0
        unfold chk
        rw [hz]; rfl
      · obtain ⟨k, hk⟩ : ∃ k, o.length = k + 1 := ⟨o.length - 1, by omega⟩
        refine .inr (.inr ⟨decide_eq_true rfl, k, hk, ?_⟩)
        have e : lastOf o (k + 1) = (o.getD k (0, 0)).1 := rfl
        by_cases g : types < (o.getD k (0, 0)).1
        · exact .inl ⟨g, chk_last o types (by omega) (by rw [hk, e]; exact g)⟩
        · exact .inr ⟨g, chk_yes o types hFo h8 (by rw [hk, e]; omega)⟩
    · exact .inl ⟨decide_eq_false e, chk_unfair l types fun hf => e (hEq hf)⟩
  · exact .inr (.inl ⟨h0, chk_unfair l types hNF⟩)
  · exact .inr (.inr ⟨h0, chk_unfair l types hNF⟩)
set_option maxHeartbeats 1000000 in
theorem refCheck_core (n : Nat) (a : Option Addr) (cap : Nat) (l : List Stk) (hn : l.length = n) (hl : l.length ≤ 12) (types : Int) (w : World) (ha : Stks w a l) :
    Calls Try.prog 31 #[.slice a n cap, .int .i64 types] w fun e w' => e = .returned (.int .i64 (chk l types)) ∧ Below w.heap.size w w' := by
  by_cases h8 : n ≤ 8
  · have d8 : decide (8 < (n : Int)) = false := decide_eq_false (by omega)
    have CN : Hid (Calls Try.prog 36 #[.slice a n cap] w fun e w' => NPost w w' 30 l e) := by
      have := norm_any a cap l hl w ha
      rw [hn] at this
      exact this
    have CS : Hid (∀ (a2 : Option Addr) (c2 : Nat) (o : List Stk) (w1 : World), o.length ≤ 4096 → Stks w1 a2 o → Below w.heap.size w w1 → Calls Try.prog 14 #[.slice a2 o.length c2, .slice a n cap] w1 fun e w' => e = .returned (.bool (decide (o = l))) ∧ Below w1.heap.size w1 w') := by
      intro a2 c2 o w1 h1 h2 h3
      have := same_any a2 a c2 cap o l h1 (by omega) w1 h2 (ha.below h3)
      rw [hn] at this
      exact this
    have HA := Lib.hid ha
    have HL : Hid (l.length = n) := hn
    have H8 : Hid (l.length ≤ 8) := by show l.length ≤ 8; omega
    clear ha hl hn h8
    rcases Nat.eq_zero_or_pos n with rfl | hpos
    · go_enter Try.func31, Try.ntmps31
      go_wp2_with (first
        | (go_at_call 36; ((with_reducible refine CN.out.mono ?_); rintro e w1 ⟨v, en, rfl, hb1, HN⟩; rcases norm_cases types H8.out HN with ⟨rfl, a2, c2, o, rfl, hst, ho, ⟨hd, hc⟩ | ⟨hd, hz, hc⟩ | ⟨hd, k, hk, ⟨hg, hc⟩ | ⟨hg, hc⟩⟩⟩ | ⟨rfl, hc⟩ | ⟨rfl, hc⟩))
        | (go_at_call 14; ((with_reducible refine (CS.out _ _ _ _ ho.out hst.out hb1).mono ?_); rintro e w2 ⟨rfl, hb2⟩; rw [hd.out])))
      · go_ret; exact ⟨by rw [hc.out]; rfl, below2 hb1 hb2⟩
      · go_ret; exact ⟨by rw [hc.out]; rfl, below2 hb1 hb2⟩
      · exfalso; have := hk.out; have := HL.out; omega
      · exfalso; have := hk.out; have := HL.out; omega
      · go_ret; exact ⟨by rw [hc.out]; rfl, hb1⟩
      · go_ret; exact ⟨by rw [hc.out]; rfl, hb1⟩
    · obtain ⟨k0, rfl⟩ : ∃ k0, n = k0 + 1 := ⟨n - 1, by omega⟩
      obtain ⟨b, off, rfl, hbl, hcT, hcQ⟩ := HA.out k0 (by rw [HL.out]; omega)
      have i1 : (0 : Int) < (k0 : Int) + 1 := by omega
      have i2 : decide ((0 : Int) < (k0 : Int) + 1) = true := decide_eq_true i1
      have i3 : Hid (∀ k, Hid (l.length = k + 1) → k = k0) := fun k h => by have := h.out; have := HL.out; omega
      have i4 : ¬ (8 : Int) < (k0 : Int) + 1 := by have := H8.out; have := HL.out; omega
      have i5 : decide ((8 : Int) < (k0 : Int) + 1) = false := decide_eq_false i4
      clear hpos hcQ d8
      go_enter Try.func31, Try.ntmps31
      go_wp2_with (first
        | (go_at_call 36; ((with_reducible refine CN.out.mono ?_); rintro e w1 ⟨v, en, rfl, hb1, HN⟩; rcases norm_cases types H8.out HN with ⟨rfl, a2, c2, o, rfl, hst, ho, ⟨hd, hc⟩ | ⟨hd, hz, hc⟩ | ⟨hd, k, hk, ⟨hg, hc⟩ | ⟨hg, hc⟩⟩⟩ | ⟨rfl, hc⟩ | ⟨rfl, hc⟩; all_goals try (obtain rfl := i3.out k hk; generalize (l.getD k (0, 0)).1 = T at *; have dg : decide (types < T) = _ := (by first | exact decide_eq_true hg | exact decide_eq_false hg))))
        | (go_at_call 14; ((with_reducible refine (CS.out _ _ _ _ ho.out hst.out hb1).mono ?_); rintro e w2 ⟨rfl, hb2⟩; rw [hd.out]; have cT := ((below2 hb1 hb2).cell hbl).trans hcT)))
      all_goals first
        | (exfalso; have h1 := hz.out; have h2 := HL.out; omega)
        | (go_ret; exact ⟨by rw [hc.out]; rfl, by first | exact below2 hb1 hb2 | exact hb1⟩)
  · have d8 : decide (8 < (n : Int)) = true := decide_eq_true (by omega)
    have HC := Lib.hid (chk_long l types (by omega))
    clear hn hl
    go_enter Try.func31, Try.ntmps31
    go_wp2
    go_ret
    exact ⟨by rw [HC.out]; rfl, Below.refl _ _⟩
theorem refCheck_any (a : Option Addr) (cap : Nat) (l : List Stk) (hl : l.length ≤ 12) (types : Int) (w : World) (ha : Stks w a l) :
    Calls Try.prog 31 #[.slice a l.length cap, .int .i64 types] w fun e w' => e = .returned (.int .i64 (chk l types)) ∧ Below w.heap.size w w' := refCheck_core l.length a cap l rfl hl types w ha
end Rec
end Go.Proofs.Ytblefohjnmmpmaa
