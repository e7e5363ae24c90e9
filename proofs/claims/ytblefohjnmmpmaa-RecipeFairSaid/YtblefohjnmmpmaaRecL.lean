/- What a law of blueprints shares: the box of its argument, as it stays over calls. -/
import Derived.Test.YtblefohjnmmpmaaRecO
import Derived.Test.YtblefohjnmmpmaaRecA2
namespace Go.Proofs.Ytblefohjnmmpmaa
open Go.RowKit
namespace Rec
def Boxed (W : World) (g : Nat) (b : BlueIn) : Prop := W.cell? ⟨g, 0, none⟩ = some (.int .i64 b.makes) ∧ W.cell? ⟨g, 1, none⟩ = some (.int .i64 b.per) ∧ W.cell? ⟨g, 2, none⟩ = some (.int .i64 b.time) ∧ W.cell? ⟨g, 3, none⟩ = some (.slice b.addr b.needs.length b.cap) ∧ W.cell? ⟨g, 4, none⟩ = some (.int .i64 b.copy) ∧ W.cell? ⟨g, 5, none⟩ = some (.int .i64 b.study) ∧ W.cell? ⟨g, 6, none⟩ = some (.int .i64 b.most)
theorem boxed_first {w w1 : World} {b : BlueIn} (h : Below (w.alloc (.cells #[.int .i64 b.makes, .int .i64 b.per, .int .i64 b.time, .slice b.addr b.needs.length b.cap, .int .i64 b.copy, .int .i64 b.study, .int .i64 b.most] 24)).heap.size (w.alloc (.cells #[.int .i64 b.makes, .int .i64 b.per, .int .i64 b.time, .slice b.addr b.needs.length b.cap, .int .i64 b.copy, .int .i64 b.study, .int .i64 b.most] 24)) w1) : Boxed w1 w.heap.size b :=
  ⟨box_cell h 0, box_cell h 1, box_cell h 2, box_cell h 3, box_cell h 4, box_cell h 5, box_cell h 6⟩
theorem boxed_next {W w1 : World} {g : Nat} {b : BlueIn} (h : Below W.heap.size W w1) (hg : g < W.heap.size) (hx : Boxed W g b) : Boxed w1 g b := by
  obtain ⟨h0, h1, h2, h3, h4, h5, h6⟩ := hx
  exact ⟨(h.cell hg).trans h0, (h.cell hg).trans h1, (h.cell hg).trans h2, (h.cell hg).trans h3, (h.cell hg).trans h4, (h.cell hg).trans h5, (h.cell hg).trans h6⟩
theorem lt_next {W w1 : World} {g : Nat} (h : Below W.heap.size W w1) (hg : g < W.heap.size) : g < w1.heap.size := Nat.lt_of_lt_of_le hg h.size
theorem boxed_alloc {W : World} {g : Nat} {b : BlueIn} (o : Obj) (hg : g < W.heap.size) (hx : Boxed W g b) : Boxed (W.alloc o) g b := boxed_next ((Below.refl _ _).alloc (Nat.le_refl _) o) hg hx
theorem lt_alloc {W : World} {g : Nat} (o : Obj) (hg : g < W.heap.size) : g < (W.alloc o).heap.size := by rw [World.size_alloc]; exact Nat.lt_succ_of_lt hg
end Rec
end Go.Proofs.Ytblefohjnmmpmaa
