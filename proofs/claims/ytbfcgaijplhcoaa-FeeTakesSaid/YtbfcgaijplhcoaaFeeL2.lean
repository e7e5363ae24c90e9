/- What is taken of any contract, any price, any time: the law's walk. -/
import Derived.Test.YtbfcgaijplhcoaaFeeAw
import Derived.ChangeSlices
import Derived.Deep.Fields
import Derived.Deep.RegionHeld3
import Derived.Deep.DeepCutAuto
namespace Go.Proofs.Ytbfcgaijplhcoaa
open Go.RowKit Go.WideShapes Go.WideElems Go.ChangeAt Go.ChangeShapes
namespace Fee
def IsFees (_W : World) (v : Value) (f : FeesIn) : Prop := v = .agg f.val
theorem fees_cells : Try.prog.cellsOf 32 = 3 ∧ Try.prog.cellsOf 3 = 1 := ⟨by kernel_rfl, by kernel_rfl⟩
theorem isFees_of {H : Type} {enc : TypeId × Value → H} {W : World} {r : Reach} {b0 : Nat} {v : Value} {d : DataW H} {p : List MemPlace} {base : Nat} {spare held : _}
    (hv : Value.okWide Try.prog W r b0 32 v) (h : DataW.Trod enc Try.prog W base spare held 32 v d p) : ∃ f, IsFees W v f := by
  obtain ⟨cs, rfl, hsz⟩ := okWide_struct Try.underlying32 hv
  rw [fees_cells.1] at hsz
  obtain ⟨l⟩ := cs
  match l, hsz with
  | [c0, c1, c2], _ =>
    obtain ⟨fuel, hf⟩ := h
    obtain ⟨xs, n, _, hx, _, hlen, hg⟩ := DataW.trod_struct Try.underlying32 hf
    match xs, hlen with
    | [y0, y1, y2], _ =>
      have k3 := fees_cells.2
      have g0 := hg 0 _ rfl
      have g1 := hg 1 _ rfl
      have g2 := hg 2 _ rfl
      simp [Value.cells, k3] at g0 g1 g2
      obtain ⟨z0, e0, -, w0⟩ := DataW.trod_int Try.underlying3 g0
      obtain ⟨z1, e1, -, w1⟩ := DataW.trod_int Try.underlying3 g1
      obtain ⟨z2, e2, -, w2⟩ := DataW.trod_int Try.underlying3 g2
      simp at e0 e1 e2
      subst e0 e1 e2
      exact ⟨⟨z0, z1, z2⟩, rfl⟩
/-- What stays over the calls of the last line. -/
def NF (w W : World) (f : FeesIn) : Prop := Below w.heap.size w W ∧ w.heap.size < W.heap.size ∧ W.cell? ⟨w.heap.size, 0, none⟩ = some (.int .i64 f.broker) ∧ W.cell? ⟨w.heap.size, 1, none⟩ = some (.int .i64 f.least) ∧ W.cell? ⟨w.heap.size, 2, none⟩ = some (.int .i64 f.sales)
theorem nf_next {w W W1 : World} {f : FeesIn} (h : NF w W f) (hb : Below W.heap.size W W1) : NF w W1 f := by
  obtain ⟨h1, h2, h3, h4, h5⟩ := h
  exact ⟨below2 h1 hb, Nat.lt_of_lt_of_le h2 hb.size, (hb.cell h2).trans h3, (hb.cell h2).trans h4, (hb.cell h2).trans h5⟩
theorem nf_drew {w W : World} {f : FeesIn} (h : NF w W f) : NF w W.drew f := by
  obtain ⟨h1, h2⟩ := h
  exact ⟨h1.drew, h2⟩
theorem nf_flat {w W : World} {f : FeesIn} (h : Hid (NF w W f)) : W.cell? ⟨w.heap.size, 0, none⟩ = some (.int .i64 f.broker) ∧ W.cell? ⟨w.heap.size, 1, none⟩ = some (.int .i64 f.least) ∧ W.cell? ⟨w.heap.size, 2, none⟩ = some (.int .i64 f.sales) ∧ Hid (NF w W f) := ⟨h.out.2.2.1, h.out.2.2.2.1, h.out.2.2.2.2, h⟩
theorem nf_first {w W : World} {f : FeesIn} {t : TypeId} (hb : Below (w.alloc (.cells #[.int .i64 f.broker, .int .i64 f.least, .int .i64 f.sales] t)).heap.size (w.alloc (.cells #[.int .i64 f.broker, .int .i64 f.least, .int .i64 f.sales] t)) W) : NF w W f := by
  refine ⟨((Below.refl _ _).alloc (Nat.le_refl _) _).trans (hb.mono (by simp)), box_lt hb, ?_, ?_, ?_⟩
  · exact box_cell hb 0
  · exact box_cell hb 1
  · exact box_cell hb 2
set_option maxRecDepth 100000 in
set_option maxHeartbeats 8000000 in
theorem takes_walk (w : World) (v : Value) (f : FeesIn) (hv : IsFees w v f) (x : Int) (_hx : (Lit.int .i64 x).wf = true) (y : Int) (_hy : (Lit.int .i64 y).wf = true) :
    Calls Try.prog 5 #[v, .int .i64 x, .int .i64 y] w fun e w' => e = .returned (.bool true) ∧ Below w.heap.size w w' := by
  subst hv
  have C1 : Hid (∀ W, Calls Try.prog 11 #[.agg #[.int .i64 f.broker, .int .i64 f.least, .int .i64 f.sales], .int .i64 x] W fun e w' => e = .returned (.tuple #[.int .i64 (brokerV f x).1, .int .i64 (brokerV f x).2]) ∧ Below W.heap.size W w') := broker_any f x
  have C2 : Hid (∀ W, Calls Try.prog 12 #[.agg #[.int .i64 f.broker, .int .i64 f.least, .int .i64 f.sales], .int .i64 x] W fun e w' => e = .returned (.tuple #[.int .i64 (brokerV f x).1, .int .i64 (brokerV f x).2]) ∧ Below W.heap.size W w') := refBroker_any f x
  have C3 : Hid (∀ W, Calls Try.prog 13 #[.agg #[.int .i64 f.broker, .int .i64 f.least, .int .i64 f.sales], .int .i64 x] W fun e w' => e = .returned (.tuple #[.int .i64 (saleV f x).1, .int .i64 (saleV f x).2]) ∧ Below W.heap.size W w') := sale_any f x
  have C4 : Hid (∀ W, Calls Try.prog 14 #[.agg #[.int .i64 f.broker, .int .i64 f.least, .int .i64 f.sales], .int .i64 x] W fun e w' => e = .returned (.tuple #[.int .i64 (saleV f x).1, .int .i64 (saleV f x).2]) ∧ Below W.heap.size W w') := refSale_any f x
  have C5 : Hid (∀ W, Calls Try.prog 15 #[.int .i64 y, .int .i64 x] W fun e w' => e = .returned (.tuple #[.int .i64 (bayV y x).1, .int .i64 (bayV y x).2]) ∧ Below W.heap.size W w') := fun W => bay_any y x W
  have C6 : Hid (∀ W, Calls Try.prog 16 #[.int .i64 y, .int .i64 x] W fun e w' => e = .returned (.tuple #[.int .i64 (bayV y x).1, .int .i64 (bayV y x).2]) ∧ Below W.heap.size W w') := fun W => refBay_any y x W
  have C7 : Hid (∀ W, Calls Try.prog 17 #[.agg #[.int .i64 f.broker, .int .i64 f.least, .int .i64 f.sales]] W fun e w' => e = .returned (.int .i64 (if okF f then 0 else 1)) ∧ Below W.heap.size W w') := check_any f
  have C8 : Hid (∀ W, Calls Try.prog 18 #[.agg #[.int .i64 f.broker, .int .i64 f.least, .int .i64 f.sales]] W fun e w' => e = .returned (.int .i64 (if okF f then 0 else 1)) ∧ Below W.heap.size W w') := refCheck_any f
  generalize (brokerV f x).1 = V1 at *
  generalize (brokerV f x).2 = E1 at *
  generalize (saleV f x).1 = V2 at *
  generalize (saleV f x).2 = E2 at *
  generalize (bayV y x).1 = V3 at *
  generalize (bayV y x).2 = E3 at *
  generalize (if okF f then (0 : Int) else 1) = K at *
  unfold FeesIn.val
  go_enter Try.func5, Try.ntmps5
  go_upto_region 7 with (first
    | (go_at_call 11; ((with_reducible refine (C1.out _).mono ?_); rintro e w1 ⟨rfl, hb1⟩; have HN1 := Lib.hid (nf_first hb1); obtain ⟨c0, c1, c2, _⟩ := nf_flat HN1))
    | (go_at_call 12; ((with_reducible refine (C2.out _).mono ?_); rintro e w2 ⟨rfl, hb2⟩; have HN2 := Lib.hid (nf_next HN1.out hb2); clear c0 c1 c2; obtain ⟨c0, c1, c2, _⟩ := nf_flat HN2))
    | (go_at_call 13; ((with_reducible refine (C3.out _).mono ?_); rintro e w3 ⟨rfl, hb3⟩; have HN3 := Lib.hid (nf_next HN2.out hb3); clear c0 c1 c2; obtain ⟨c0, c1, c2, _⟩ := nf_flat HN3))
    | (go_at_call 14; ((with_reducible refine (C4.out _).mono ?_); rintro e w4 ⟨rfl, hb4⟩; have HN4 := Lib.hid (nf_next HN3.out hb4); clear c0 c1 c2))
    | (go_at_call 15; ((with_reducible refine (C5.out _).mono ?_); rintro e w5 ⟨rfl, hb5⟩; have HN5 := Lib.hid (nf_next HN4.out hb5)))
    | (go_at_call 16; ((with_reducible refine (C6.out _).mono ?_); rintro e w6 ⟨rfl, hb6⟩; have HN6 := Lib.hid (nf_next HN5.out hb6))))
  have HN6 := Lib.hid (nf_drew HN6.out)
  go_region_held3 (fun W' => W'.cell? ⟨w.heap.size, 0, none⟩ = some (.int .i64 f.broker) ∧ W'.cell? ⟨w.heap.size, 1, none⟩ = some (.int .i64 f.least) ∧ W'.cell? ⟨w.heap.size, 2, none⟩ = some (.int .i64 f.sales) ∧ Hid (NF w W' f)) (first | exact nf_flat HN9 | exact nf_flat HN8 | exact nf_flat HN7 | exact nf_flat HN6)
    (first
    | (go_at_call 6; (have tok := HN8; (with_reducible refine (awake_any _).mono ?_); rintro e w9 ⟨rfl, hb9⟩; clear tok; have HN9 := Lib.hid (nf_next HN8.out hb9)))
    | (go_at_call 18; (have tok := HN7; (with_reducible refine (C8.out _).mono ?_); rintro e w8 ⟨rfl, hb8⟩; clear tok; have HN8 := Lib.hid (nf_next HN7.out hb8)))
    | (go_at_call 17; (have tok := HN6; (with_reducible refine (C7.out _).mono ?_); rintro e w7 ⟨rfl, hb7⟩; clear tok; have HN7 := Lib.hid (nf_next HN6.out hb7))))
  go_wp2
  go_ret
  exact ⟨rfl, HN9.out.1⟩
end Fee
end Go.Proofs.Ytbfcgaijplhcoaa
