/- A reply that came in as an argument; what the library's tables read as. -/
import Derived.Test.YtmaddebfoefckaaDoorRepC
import Derived.ChangeSlices
import Derived.Deep.Fields
import Derived.Lib.LaidTab
set_option linter.unusedSimpArgs false
namespace Go.Proofs.YtmaddebfoefckaaDoor
open Go.RowKit Go.WideShapes Go.WideElems Go.ChangeAt Go.ChangeShapes
namespace Rep
open Pen (I64)
theorem wf_i64 {z : Int} (h : (Lit.int .i64 z).wf = true) : I64 z := by
  simp [Lit.wf] at h
  exact h
theorem rep_cells : Tryd.prog.cellsOf 3 = 1 ∧ Tryd.prog.cellsOf 22 = 1 ∧ Tryd.prog.cellsOf 24 = 5 := ⟨by kernel_rfl, by kernel_rfl, by kernel_rfl⟩
set_option maxRecDepth 100000 in
theorem isRep_of {H : Type} {enc : TypeId × Value → H} {W : World} {r : Reach} {b0 : Nat} {v : Value} {d : DataW H} {p : List MemPlace} {base : Nat} {spare held : _}
    (hv : Value.okWide Tryd.prog W r b0 24 v) (h : DataW.Trod enc Tryd.prog W base spare held 24 v d p) : ∃ r : RepIn, v = .agg r.val ∧ Rok r := by
  obtain ⟨cs, rfl, hsz⟩ := okWide_struct Tryd.underlying24 hv
  rw [rep_cells.2.2] at hsz
  obtain ⟨l⟩ := cs
  match l, hsz with
  | [c0, c1, c2, c3, c4], _ =>
    obtain ⟨fuel, hf⟩ := h
    obtain ⟨xs, n, _, hx, _, hlen, hg⟩ := DataW.trod_struct Tryd.underlying24 hf
    match xs, hlen with
    | [y0, y1, y2, y3, y4], _ =>
      have k3 := rep_cells.1
      have k22 := rep_cells.2.1
      have g0 := hg 0 _ rfl
      have g1 := hg 1 _ rfl
      have g2 := hg 2 _ rfl
      have g3 := hg 3 _ rfl
      have g4 := hg 4 _ rfl
      simp [Value.cells, k3, k22] at g0 g1 g2 g3 g4
      obtain ⟨z0, e0, -, w0⟩ := DataW.trod_int Tryd.underlying22 g0
      obtain ⟨z1, e1, -, w1⟩ := DataW.trod_int Tryd.underlying3 g1
      obtain ⟨z2, e2, -, w2⟩ := DataW.trod_int Tryd.underlying3 g2
      obtain ⟨z3, e3, -, w3⟩ := DataW.trod_int Tryd.underlying3 g3
      obtain ⟨z4, e4, -, w4⟩ := DataW.trod_int Tryd.underlying3 g4
      simp at e0 e1 e2 e3 e4
      subst e0 e1 e2 e3 e4
      exact ⟨⟨z0, z1, z2, z3, z4⟩, rfl, wf_i64 w0, wf_i64 w1, wf_i64 w2, wf_i64 w3, wf_i64 w4⟩
theorem laid_tail {P : Program} {W : World} {x : String × DataW Unit} {rest : List (String × DataW Unit)} {ps : List MemPlace} (h : DataW.LaidVars P W (x :: rest) ps) : ∃ q, DataW.LaidVars P W rest q := by
  obtain ⟨_, _, _, _, _, q0, _, _, _, _, hr, _⟩ := h
  exact ⟨q0, hr⟩
theorem laid_tab {P : Program} {W : World} {name : String} {k : IntKind} {zs : List Int} {rest : List (String × DataW Unit)} {ps : List MemPlace} {g : Nat} {t e : TypeId} {n : Nat}
    (hg : P.globalNamed name = some g) (hty : (P.globals[g]?).map (·.type) = some t) (ht : P.underlying t = some (.array n e)) (he : P.underlying e = some (.int k)) (hce : P.cellsOf e = 1) (hct : P.cellsOf t = n)
    (h : DataW.LaidVars P W ((name, Lib.tabData k zs) :: rest) ps) : Lib.TabIs P W name k zs := by
  obtain ⟨g', t', cs, fuel, p, q, hg', ht', hvar, hd, _, _⟩ := h
  obtain rfl := Option.some.inj (hg.symm.trans hg')
  obtain rfl := Option.some.inj (hty.symm.trans ht')
  unfold Lib.TabIs
  rw [hvar, ← Lib.cells_of_tab ht he hce hct hd]
/-- What the tables read as, behind what is laid. -/
theorem tab_of {W : World} {a b c : String × DataW Unit} (h : laidMet Tryd.prog (a :: b :: ("internal/strconv.uint64pow10", Lib.tabData .u64 Lib.pow10Tab) :: c :: ("strings.asciiSpace", Lib.tabData .u8 Lib.asciiSpaceTab) :: []) W) : Tab W := by
  obtain ⟨ps, h0, _⟩ := h
  obtain ⟨_, h1⟩ := laid_tail h0
  obtain ⟨_, h2⟩ := laid_tail h1
  obtain ⟨_, h3⟩ := laid_tail h2
  obtain ⟨_, h4⟩ := laid_tail h3
  exact ⟨laid_tab (g := 0) (t := 59) (e := 5) (n := 256) (by kernel_rfl) (by kernel_rfl) Tryd.underlying59 Tryd.underlying5 (by kernel_rfl) (by kernel_rfl) h4,
    laid_tab (g := 2) (t := 89) (e := 51) (n := 20) (by kernel_rfl) (by kernel_rfl) Tryd.underlying89 Tryd.underlying51 (by kernel_rfl) (by kernel_rfl) h2⟩
end Rep
end Go.Proofs.YtmaddebfoefckaaDoor
