/- Texts put together: AskO. -/
import Derived.Test.YtlhalhilnkneeaaGreatDoorM17
import Derived.Test.YtlhalhilnkneeaaGreatDoorM18
import Derived.Stop.LaidErr
import Derived.HandedShaped
import Derived.Lib.LaidTab
set_option linter.all false
section
set_option maxRecDepth 100000
namespace Go.Proofs.YtlhalhilnkneeaaGreatDoor
open Go.RowKit Go.WideShapes Go.WideElems Go.ChangeAt Go.ChangeShapes
namespace Asm
theorem laid_tail {P : Program} {W : World} {x : String × DataW Unit} {rest : List (String × DataW Unit)} {ps : List MemPlace} (h : DataW.LaidVars P W (x :: rest) ps) : ∃ q, DataW.LaidVars P W rest q := by
  obtain ⟨_, _, _, _, _, q0, _, _, _, _, hr, _⟩ := h
  exact ⟨q0, hr⟩
theorem laid_tab {P : Program} {W : World} {name : String} {k : IntKind} {zs : List Int} {rest : List (String × DataW Unit)} {ps : List MemPlace} {g : Nat} {t e : TypeId} {n : Nat}
    (hg : P.globalNamed name = some g) (hty : (P.globals[g]?).map (·.type) = some t) (ht : P.underlying t = some (.array n e)) (he : P.underlying e = some (.int k)) (hce : P.cellsOf e = 1) (hct : P.cellsOf t = n)
    (h : DataW.LaidVars P W ((name, Lib.tabData k zs) :: rest) ps) : Lib.TabIs P W name k zs := by
  obtain ⟨g', t', cs, fuel, p, q, hg', ht', hvar, hd, _, _⟩ := h
  obtain rfl := Option.some.inj (hg.symm.trans hg')
  obtain rfl := Option.some.inj (hty.symm.trans ht')
  unfold Lib.TabIs
  rw [hvar, ← Lib.cells_of_tab ht he hce hct hd]
theorem star_name : "*" ++ "errors.errorString" = "*errors.errorString" := by decide
theorem err_row (u : TypeId) (h : Tryz.prog.typeName? 3 u = some "*errors.errorString") : u = 207 :=
  typeName_ptr_named (nm := "errors.errorString") (by rw [star_name]; kernel_rfl) (by kernel_rfl) (by decide) u (by rw [star_name]; exact h)
theorem sent_of {n : String} {text : List UInt8} {r : List (String × DataW Unit)} {W : World} {g : Nat} (h : laidMet Tryz.prog ((n, .iface "*errors.errorString" (.ptr (.agg [.lit (.string text)]))) :: r) W)
    (hg : Tryz.prog.globalNamed n = some g) (ht : (Tryz.prog.globals[g]?).map (·.type) = some 97) : ∃ tp p, W.var? Tryz.prog n = some #[.iface tp p] := by
  obtain ⟨a, s, hv, -⟩ := laid_sentinel h hg ht Tryz.underlying97 err_row Tryz.underlying207 Tryz.underlying209 rfl rfl Tryz.underlying9 (by kernel_rfl) (by kernel_rfl)
  exact ⟨_, _, hv⟩
/-- What the library reads, behind what is laid. -/
theorem env_of {W : World} {a b c d e : String × DataW Unit} {t1 t2 : List UInt8} (h : laidMet Tryz.prog (a :: b :: ("internal/strconv.uint64pow10", Lib.tabData .u64 Lib.pow10Tab) :: c :: ("strconv.ErrRange", .iface "*errors.errorString" (.ptr (.agg [.lit (.string t1)]))) :: ("strconv.ErrSyntax", .iface "*errors.errorString" (.ptr (.agg [.lit (.string t2)]))) :: d :: ("strings.asciiSpace", Lib.tabData .u8 Lib.asciiSpaceTab) :: e :: []) W)
    (hsh : W.ShapedOpen Tryz.prog) : Env W := by
  have h2 := h.tail.tail
  have h4 := h2.tail.tail
  have h5 := h4.tail
  have h7 := h5.tail.tail
  obtain ⟨p2, v2, _⟩ := h2
  obtain ⟨p7, v7, _⟩ := h7
  refine ⟨⟨laid_tab (g := 0) (t := 153) (e := 5) (n := 256) (by kernel_rfl) (by kernel_rfl) Tryz.underlying153 Tryz.underlying5 (by kernel_rfl) (by kernel_rfl) v7,
    laid_tab (g := 5) (t := 196) (e := 136) (n := 20) (by kernel_rfl) (by kernel_rfl) Tryz.underlying196 Tryz.underlying136 (by kernel_rfl) (by kernel_rfl) v2⟩, ?_, ?_, ?_⟩
  · exact sent_of (g := 6) h5 (by kernel_rfl) (by kernel_rfl)
  · exact sent_of (g := 7) h4 (by kernel_rfl) (by kernel_rfl)
  · exact Go.Proofs.cell_of_shapedOpen_int (g := 1) (zero := #[.int .i64 0]) (t := 3) hsh (of_decide_eq_true (by kernel_rfl)) (by kernel_rfl) rfl (by kernel_rfl) (by kernel_rfl) Tryz.underlying3
end Asm
end Go.Proofs.YtlhalhilnkneeaaGreatDoor
end
