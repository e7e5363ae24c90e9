/-
  No cell of these rows narrows 'for every input' (looked for: loops, veiled, ifaces, maps, wideKeys, modest, calm, conditions, laid).
  DERIVED. THE GIVEN ROWS OF THIS SEAT. 3 by the template 'for every input the law returns true; each argument reads behind the call as it read before'; 0 by the template 'total and deterministic' (their statements: YtiabnjmblcogmaaTotals.lean).
  GIVEN WITH THE SEED: the statements are not yours to turn. If you find one false, say at which input.
  Laid BY PROGRAM, IN A SANDBOX (cutbox-rows.mjs): the forced cells as the released guide's own fill.sh prints them over the translation 00f0f7b3fdc7fb9c… (all of the seat's roots in one cut). By AI agents, Wed Nov 11 2026. No macro, syntax, notation, axiom, sorry.
-/
import Derived.Test.YtiabnjmblcogmaaChecked
import GoSem.Claim
import GoSem.ClaimJoined
import GoSem.ClaimMapViews
import Derived.JoinedTies
import Derived.KernelRfl
namespace Go.Proofs.Ytiabnjmblcogmaa
/- THE CELL 'sum', in the pinned program and in every row, IS THE sha256 OF THE DUMP (.gsa) THAT YtiabnjmblcogmaaProg.lean LOADS. Nothing in Lean hashes anything: it is a label: what it is worth is what the hold of that sum in a sandbox is worth. -/
noncomputable def Try.pinned : Pinned := { name := "ytiabnjmblcogmaa", sum := "00f0f7b3fdc7fb9c69b3c083b166be9e32d9fea4a271deb722abe2f9d6019bce", checked := Try.checked }
namespace Rows
def none {H : Type} : Left H := { results := [], args := [] }

/-- 'bottomrylaw16.QuotePlans': WHATEVER THE INPUT: true; the input reads as it did. -/
def quotePlansSpec : ChangeSpec := { name := "quotePlans", fn := fun _ => fun
  | [d1, d2, d3] => { results := [.lit (.bool true)], args := [d1, d2, d3] }
  | _ => none }
def quotePlansRow : OpenClaim := { program := "ytiabnjmblcogmaa", sum := "00f0f7b3fdc7fb9c69b3c083b166be9e32d9fea4a271deb722abe2f9d6019bce", func := "bottomry/bottomrylaw16.QuotePlans", spec := "quotePlans", unfollowed := true, recurses := true, named := ["math/bits.divideError", "math/bits.overflowError"], apart := false }
def QuotePlansSaid : Prop := quotePlansRow.holds Try.pinned (OpenSpec.ofChange quotePlansSpec)

/-- ITS FALSE NEIGHBOUR: 'it returns false'. Refute it at one input. -/
def quotePlansWrong : ChangeSpec := { name := "quotePlans", fn := fun _ => fun
  | [d1, d2, d3] => { results := [.lit (.bool false)], args := [d1, d2, d3] }
  | _ => none }
def QuotePlansWrongFalsely : Prop := quotePlansRow.holds Try.pinned (OpenSpec.ofChange quotePlansWrong)

/-- 'bottomrylaw16.QuoteFits': WHATEVER THE INPUT: true; the input reads as it did. -/
def quoteFitsSpec : ChangeSpec := { name := "quoteFits", fn := fun _ => fun
  | [d1, d2, d3] => { results := [.lit (.bool true)], args := [d1, d2, d3] }
  | _ => none }
def quoteFitsRow : OpenClaim := { program := "ytiabnjmblcogmaa", sum := "00f0f7b3fdc7fb9c69b3c083b166be9e32d9fea4a271deb722abe2f9d6019bce", func := "bottomry/bottomrylaw16.QuoteFits", spec := "quoteFits", unfollowed := true, recurses := true, named := ["math/bits.divideError", "math/bits.overflowError"], apart := false }
def QuoteFitsSaid : Prop := quoteFitsRow.holds Try.pinned (OpenSpec.ofChange quoteFitsSpec)

/-- ITS FALSE NEIGHBOUR: 'it returns false'. Refute it at one input. -/
def quoteFitsWrong : ChangeSpec := { name := "quoteFits", fn := fun _ => fun
  | [d1, d2, d3] => { results := [.lit (.bool false)], args := [d1, d2, d3] }
  | _ => none }
def QuoteFitsWrongFalsely : Prop := quoteFitsRow.holds Try.pinned (OpenSpec.ofChange quoteFitsWrong)

/-- 'bottomrylaw16.QuoteSound': WHATEVER THE INPUT: true; the input reads as it did. -/
def quoteSoundSpec : ChangeSpec := { name := "quoteSound", fn := fun _ => fun
  | [d1, d2, d3] => { results := [.lit (.bool true)], args := [d1, d2, d3] }
  | _ => none }
def quoteSoundRow : OpenClaim := { program := "ytiabnjmblcogmaa", sum := "00f0f7b3fdc7fb9c69b3c083b166be9e32d9fea4a271deb722abe2f9d6019bce", func := "bottomry/bottomrylaw16.QuoteSound", spec := "quoteSound", unfollowed := true, recurses := true, named := ["math/bits.divideError", "math/bits.overflowError"], apart := false }
def QuoteSoundSaid : Prop := quoteSoundRow.holds Try.pinned (OpenSpec.ofChange quoteSoundSpec)

/-- ITS FALSE NEIGHBOUR: 'it returns false'. Refute it at one input. -/
def quoteSoundWrong : ChangeSpec := { name := "quoteSound", fn := fun _ => fun
  | [d1, d2, d3] => { results := [.lit (.bool false)], args := [d1, d2, d3] }
  | _ => none }
def QuoteSoundWrongFalsely : Prop := quoteSoundRow.holds Try.pinned (OpenSpec.ofChange quoteSoundWrong)

/- THE SECOND FORM. 'bulk': how many values and letters a reading holds, each counted each time it is reached (what is shared counts as often as it is met; a slice's spare places count too). A statement '..UptoSaid' is the law's where the arguments, and the package variables that the reading takes, are together of bulk at most 1048576: NARROWER than '..Said'. Prove '..Said' where nothing that the law and all that it calls make is longer than what came in: it says more and counts as full. Else prove '..UptoSaid'. A law counts once. -/
mutual
def uptoBulk {H : Type} : DataW H → Nat
  | .lit (.string bytes) => bytes.length + 1
  | .lit _ => 1
  | .nil => 1
  | .ptr d => uptoBulk d + 1
  | .slice elems spare => uptoBulkAll elems + uptoBulkAll spare + 1
  | .agg parts => uptoBulkAll parts + 1
  | .iface _ d => uptoBulk d + 1
  | .map entries => uptoBulkEntries entries + 1
  | .held _ => 1
def uptoBulkAll {H : Type} : List (DataW H) → Nat
  | [] => 0
  | d :: r => uptoBulk d + uptoBulkAll r
def uptoBulkEntries {H : Type} : List (Lit × DataW H) → Nat
  | [] => 0
  | x :: r => uptoBulkEntry x + uptoBulkEntries r
def uptoBulkEntry {H : Type} : Lit × DataW H → Nat
  | (.string bytes, d) => bytes.length + uptoBulk d + 1
  | (_, d) => uptoBulk d + 1
 end
def uptoSmall : (H : Type) → List (DataW H) → Bool := fun _ ds => decide (uptoBulkAll ds ≤ 1048576)
def OpenSpec.upto (s : _root_.Go.ChangeSpec) : _root_.Go.OpenSpec := { _root_.Go.OpenSpec.ofChange s with cond := some uptoSmall }

/-- 'bottomrylaw16.QuotePlans', WHERE WHAT IT READS IS OF BULK AT MOST 1048576: true; the input reads as it did. -/
def quotePlansUptoRow : OpenClaim := { program := "ytiabnjmblcogmaa", sum := "00f0f7b3fdc7fb9c69b3c083b166be9e32d9fea4a271deb722abe2f9d6019bce", func := "bottomry/bottomrylaw16.QuotePlans", spec := "quotePlans", unfollowed := true, recurses := true, named := ["math/bits.divideError", "math/bits.overflowError"], apart := false, narrowed := true }
def QuotePlansUptoSaid : Prop := quotePlansUptoRow.holds Try.pinned (OpenSpec.upto quotePlansSpec)

/-- 'bottomrylaw16.QuoteFits', WHERE WHAT IT READS IS OF BULK AT MOST 1048576: true; the input reads as it did. -/
def quoteFitsUptoRow : OpenClaim := { program := "ytiabnjmblcogmaa", sum := "00f0f7b3fdc7fb9c69b3c083b166be9e32d9fea4a271deb722abe2f9d6019bce", func := "bottomry/bottomrylaw16.QuoteFits", spec := "quoteFits", unfollowed := true, recurses := true, named := ["math/bits.divideError", "math/bits.overflowError"], apart := false, narrowed := true }
def QuoteFitsUptoSaid : Prop := quoteFitsUptoRow.holds Try.pinned (OpenSpec.upto quoteFitsSpec)

/-- 'bottomrylaw16.QuoteSound', WHERE WHAT IT READS IS OF BULK AT MOST 1048576: true; the input reads as it did. -/
def quoteSoundUptoRow : OpenClaim := { program := "ytiabnjmblcogmaa", sum := "00f0f7b3fdc7fb9c69b3c083b166be9e32d9fea4a271deb722abe2f9d6019bce", func := "bottomry/bottomrylaw16.QuoteSound", spec := "quoteSound", unfollowed := true, recurses := true, named := ["math/bits.divideError", "math/bits.overflowError"], apart := false, narrowed := true }
def QuoteSoundUptoSaid : Prop := quoteSoundUptoRow.holds Try.pinned (OpenSpec.upto quoteSoundSpec)

end Rows
end Go.Proofs.Ytiabnjmblcogmaa
