/- The reference's count of a type. -/
import Derived.Test.YtblefohjnmmpmaaRecC
namespace Go.Proofs.Ytblefohjnmmpmaa
open Go.RowKit
namespace Rec
theorem norm_fair {w w1 : World} {T : TypeId} {l : List Stk} {e : Ending} (hf : Fair l) (h : NPost w w1 T l e) : ∃ a2 c2, e = .returned (.tuple #[.slice a2 l.length c2, .int .i64 0]) ∧ Below w.heap.size w w1 ∧ Hid (Stks w1 a2 l) := by
  obtain ⟨v, en, rfl, hb, h⟩ := h
  rcases h with ⟨rfl, o, hFo, hol, hown, hEq⟩ | ⟨h0, hNF⟩ | ⟨h0, hNF⟩
  · obtain rfl := hEq hf
    obtain ⟨a2, c2, rfl, hst⟩ := stks_of_own hown
    exact ⟨a2, c2, rfl, hb, hst⟩
  · exact absurd hf hNF
  · exact absurd hf hNF
set_option maxHeartbeats 1000000 in
theorem refCount_any (a : Option Addr) (cap : Nat) (l : List Stk) (hl : l.length ≤ 12) (hf : Fair l) (x : Int) (w : World) (ha : Stks w a l) :
    Calls Try.prog 32 #[.slice a l.length cap, .int .i64 x] w fun e w' => e = .returned (.int .i64 (cnt l x l.length)) ∧ Below w.heap.size w w' := by
  have CN : Hid (Calls Try.prog 36 #[.slice a l.length cap] w fun e w' => ∃ a2 c2, e = .returned (.tuple #[.slice a2 l.length c2, .int .i64 0]) ∧ Below w.heap.size w w' ∧ Hid (Stks w' a2 l)) := (norm_any a cap l hl w ha).mono fun e w1 h => norm_fair hf h
  have HF := Lib.hid hf
  clear ha hf
  go_enter Try.func32, Try.ntmps32
  go_wp2_with (go_at_call 36; ((with_reducible refine CN.out.mono ?_); rintro e w1 ⟨a2, c2, rfl, hb1, HS⟩))
  go_loop [7] (fun i => ∃ k : Nat, k ≤ l.length ∧ i = .int .i64 k ∧ Hid (∀ j, j < k → (l.getD j (0, 0)).1 ≠ x)) (fun i => l.length - (intOf i).toNat)
  case atStart => exact ⟨0, by omega, rfl, fun j hj => by omega⟩
  case round =>
    obtain ⟨k, hk, rfl, HE⟩ := hrel
    by_cases hlt : k < l.length
    · obtain ⟨b, off, rfl, hbl, hc, hd⟩ := HS.out k hlt
      have hlt1 : (k : Int) < (l.length : Int) := by omega
      have hy : Hid ((l.getD k (0, 0)).1 ≠ x → ∀ j, j < k + 1 → (l.getD j (0, 0)).1 ≠ x) := fun h j hj => by
        by_cases e : j = k
        · subst e; exact h
        · exact HE.out j (by omega)
      have hn : Hid ((l.getD k (0, 0)).1 = x → cnt l x l.length = (l.getD k (0, 0)).2) := fun h => cnt_some l HF.out x k _ hlt (Nat.le_refl _) h
      generalize (l.getD k (0, 0)).1 = T at *
      generalize (l.getD k (0, 0)).2 = Q at *
      by_cases g : T = x
      · have d : (T == x) = true := beq_iff_eq.2 g
        have HN := Lib.hid (hn.out g)
        subst g
        go_wp2
        go_ret
        exact ⟨by rw [HN.out]; rfl, hb1⟩
      · have d : (T == x) = false := beq_eq_false_iff_ne.2 g
        have HY := Lib.hid (hy.out g)
        go_wp2
        go_round
        case rel => exact ⟨k + 1, by omega, by go_num, HY⟩
        case measure => simp [intOf]; omega
    · have hke : k = l.length := by omega
      rw [hke] at HE
      have HN := Lib.hid (cnt_none l x l.length HE.out)
      clear hke
      go_wp2
      go_ret
      exact ⟨by rw [HN.out]; rfl, hb1⟩
end Rec
end Go.Proofs.Ytblefohjnmmpmaa
