/- A region that draws its order, where two operations may come next. -/
import Derived.Test.YtnbmjbelmcibgaaOrdU
namespace Go.Proofs.Ytnbmjbelmcibgaa
open Go.RowKit
namespace Ord
section
variable {P : Program} {md : Region.Mode} {ops : Array Oper} {Q : Exit → Act → World → Prop} {S : World → Prop} {D : Nat → Bool}
theorem wpAnyU_two {i j : Nat} {o p : Oper} {fuel : Nat} {listed : Array Bool} {a : Act} {w : World} (hr : Region.ready md ops listed = [i, j]) (ho : ops[i]? = some o) (hp : ops[j]? = some p)
    (h : ∀ K' : Act → World → Prop, Shut (∀ a w, (D i = false → S w) → wpAnyU P md ops Q S D fuel (listed.setIfInBounds i true) a w → K' a w) → if Region.wanted o (yielded ops a.tmps) = true then Oper.wp P o a w K' Q else K' (a.put o.dst undef) w)
    (h2 : ∀ K' : Act → World → Prop, Shut (∀ a w, (D j = false → S w) → wpAnyU P md ops Q S D fuel (listed.setIfInBounds j true) a w → K' a w) → if Region.wanted p (yielded ops a.tmps) = true then Oper.wp P p a w K' Q else K' (a.put p.dst undef) w) :
    wpAnyU P md ops Q S D (fuel + 1) listed a w := by
  refine ⟨fun h0 => absurd (hr ▸ h0) (by simp), fun k hk => ?_⟩
  rw [hr] at hk
  rcases List.mem_cons.1 hk with e | hk
  · rw [e]
    exact wpOp_step ho fun K' hK => h K' fun a w hS hW => hK a w ⟨hS, hW⟩
  · rw [List.mem_singleton.1 hk]
    exact wpOp_step hp fun K' hK => h2 K' fun a w hS hW => hK a w ⟨hS, hW⟩
end
end Ord
end Go.Proofs.Ytnbmjbelmcibgaa
