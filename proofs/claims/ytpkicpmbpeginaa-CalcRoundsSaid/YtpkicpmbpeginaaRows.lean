/-
  No cell of these rows narrows 'for every input' (looked for: loops, veiled, ifaces, maps, wideKeys, modest, calm, conditions, laid).
  DERIVED. THE GIVEN ROWS OF THIS SEAT. 4 by the template 'for every input the law returns true; each argument reads behind the call as it read before'; 0 by the template 'total and deterministic' (their statements: YtpkicpmbpeginaaTotals.lean).
  GIVEN WITH THE SEED: the statements are not yours to turn. If you find one false, say at which input.
  Laid BY PROGRAM, IN A SANDBOX (cutbox-rows.mjs): the forced cells as the released guide's own fill.sh prints them over the translation e66bf485140b9f2f… (all of the seat's roots in one cut). By AI agents, Wed Nov 11 2026. No macro, syntax, notation, axiom, sorry.
-/
import Derived.Test.YtpkicpmbpeginaaChecked
import GoSem.Claim
import GoSem.ClaimJoined
import GoSem.ClaimMapViews
import Derived.JoinedTies
import Derived.KernelRfl
namespace Go.Proofs.Ytpkicpmbpeginaa
/- THE CELL 'sum', in the pinned program and in every row, IS THE sha256 OF THE DUMP (.gsa) THAT YtpkicpmbpeginaaProg.lean LOADS. Nothing in Lean hashes anything: it is a label: what it is worth is what the hold of that sum in a sandbox is worth. -/
noncomputable def Try.pinned : Pinned := { name := "ytpkicpmbpeginaa", sum := "e66bf485140b9f2fcf52247b0b82a27449ad25ed63dec3987ddadb3ed2ae9211", checked := Try.checked }
namespace Rows
def none {H : Type} : Left H := { results := [], args := [] }

/-- 'bottomrylaw01.CalcRounds': WHATEVER THE INPUT: true; the input reads as it did. -/
def calcRoundsSpec : ChangeSpec := { name := "calcRounds", fn := fun _ => fun
  | [d] => { results := [.lit (.bool true)], args := [d] }
  | _ => none }
def calcRoundsRow : OpenClaim := { program := "ytpkicpmbpeginaa", sum := "e66bf485140b9f2fcf52247b0b82a27449ad25ed63dec3987ddadb3ed2ae9211", func := "bottomry/bottomrylaw01.CalcRounds", spec := "calcRounds", named := ["math/bits.divideError", "math/bits.overflowError"], apart := false }
def CalcRoundsSaid : Prop := calcRoundsRow.holds Try.pinned (OpenSpec.ofChange calcRoundsSpec)

/-- ITS FALSE NEIGHBOUR: 'it returns false'. Refute it at one input. -/
def calcRoundsWrong : ChangeSpec := { name := "calcRounds", fn := fun _ => fun
  | [d] => { results := [.lit (.bool false)], args := [d] }
  | _ => none }
def CalcRoundsWrongFalsely : Prop := calcRoundsRow.holds Try.pinned (OpenSpec.ofChange calcRoundsWrong)

/-- 'bottomrylaw01.CalcLists': WHATEVER THE INPUT: true; the input reads as it did. -/
def calcListsSpec : ChangeSpec := { name := "calcLists", fn := fun _ => fun
  | [d] => { results := [.lit (.bool true)], args := [d] }
  | _ => none }
def calcListsRow : OpenClaim := { program := "ytpkicpmbpeginaa", sum := "e66bf485140b9f2fcf52247b0b82a27449ad25ed63dec3987ddadb3ed2ae9211", func := "bottomry/bottomrylaw01.CalcLists", spec := "calcLists", named := ["math/bits.divideError", "math/bits.overflowError"], apart := false }
def CalcListsSaid : Prop := calcListsRow.holds Try.pinned (OpenSpec.ofChange calcListsSpec)

/-- ITS FALSE NEIGHBOUR: 'it returns false'. Refute it at one input. -/
def calcListsWrong : ChangeSpec := { name := "calcLists", fn := fun _ => fun
  | [d] => { results := [.lit (.bool false)], args := [d] }
  | _ => none }
def CalcListsWrongFalsely : Prop := calcListsRow.holds Try.pinned (OpenSpec.ofChange calcListsWrong)

/-- 'bottomrylaw01.CalcSums': WHATEVER THE INPUT: true; the input reads as it did. -/
def calcSumsSpec : ChangeSpec := { name := "calcSums", fn := fun _ => fun
  | [d1, d2] => { results := [.lit (.bool true)], args := [d1, d2] }
  | _ => none }
def calcSumsRow : OpenClaim := { program := "ytpkicpmbpeginaa", sum := "e66bf485140b9f2fcf52247b0b82a27449ad25ed63dec3987ddadb3ed2ae9211", func := "bottomry/bottomrylaw01.CalcSums", spec := "calcSums", named := ["math/bits.divideError", "math/bits.overflowError"], apart := false }
def CalcSumsSaid : Prop := calcSumsRow.holds Try.pinned (OpenSpec.ofChange calcSumsSpec)

/-- ITS FALSE NEIGHBOUR: 'it returns false'. Refute it at one input. -/
def calcSumsWrong : ChangeSpec := { name := "calcSums", fn := fun _ => fun
  | [d1, d2] => { results := [.lit (.bool false)], args := [d1, d2] }
  | _ => none }
def CalcSumsWrongFalsely : Prop := calcSumsRow.holds Try.pinned (OpenSpec.ofChange calcSumsWrong)

/-- 'bottomrylaw01.CalcBack': WHATEVER THE INPUT: true; the input reads as it did. -/
def calcBackSpec : ChangeSpec := { name := "calcBack", fn := fun _ => fun
  | [d1, d2] => { results := [.lit (.bool true)], args := [d1, d2] }
  | _ => none }
def calcBackRow : OpenClaim := { program := "ytpkicpmbpeginaa", sum := "e66bf485140b9f2fcf52247b0b82a27449ad25ed63dec3987ddadb3ed2ae9211", func := "bottomry/bottomrylaw01.CalcBack", spec := "calcBack", named := ["math/bits.divideError", "math/bits.overflowError"], apart := false }
def CalcBackSaid : Prop := calcBackRow.holds Try.pinned (OpenSpec.ofChange calcBackSpec)

/-- ITS FALSE NEIGHBOUR: 'it returns false'. Refute it at one input. -/
def calcBackWrong : ChangeSpec := { name := "calcBack", fn := fun _ => fun
  | [d1, d2] => { results := [.lit (.bool false)], args := [d1, d2] }
  | _ => none }
def CalcBackWrongFalsely : Prop := calcBackRow.holds Try.pinned (OpenSpec.ofChange calcBackWrong)

/- THE SECOND FORM. 'bulk': how many values and letters a reading holds, each counted each time it is reached (what is shared counts as often as it is met; a slice's spare places count too). A statement '..UptoSaid' is the law's where the arguments, and the package variables that the reading takes, are together of bulk at most 1048576: NARROWER than '..Said'. Prove '..Said' where nothing that the law and all that it calls make is longer than what came in: it says more and counts as full. Else prove '..UptoSaid'. A law counts once. -/
mutual
def uptoBulk {H : Type} : DataW H → Nat
  | .lit (.string bytes) => bytes.length + 1
  | .lit _ => 1
  | .nil => 1
  | .ptr d => uptoBulk d + 1
  | .slice elems spare => uptoBulkAll elems + uptoBulkAll spare + 1
  | .agg parts => uptoBulkAll parts + 1
  | .iface _ d => uptoBulk d + 1
  | .map entries => uptoBulkEntries entries + 1
  | .held _ => 1
def uptoBulkAll {H : Type} : List (DataW H) → Nat
  | [] => 0
  | d :: r => uptoBulk d + uptoBulkAll r
def uptoBulkEntries {H : Type} : List (Lit × DataW H) → Nat
  | [] => 0
  | x :: r => uptoBulkEntry x + uptoBulkEntries r
def uptoBulkEntry {H : Type} : Lit × DataW H → Nat
  | (.string bytes, d) => bytes.length + uptoBulk d + 1
  | (_, d) => uptoBulk d + 1
 end
def uptoSmall : (H : Type) → List (DataW H) → Bool := fun _ ds => decide (uptoBulkAll ds ≤ 1048576)
def OpenSpec.upto (s : _root_.Go.ChangeSpec) : _root_.Go.OpenSpec := { _root_.Go.OpenSpec.ofChange s with cond := some uptoSmall }

/-- 'bottomrylaw01.CalcRounds', WHERE WHAT IT READS IS OF BULK AT MOST 1048576: true; the input reads as it did. -/
def calcRoundsUptoRow : OpenClaim := { program := "ytpkicpmbpeginaa", sum := "e66bf485140b9f2fcf52247b0b82a27449ad25ed63dec3987ddadb3ed2ae9211", func := "bottomry/bottomrylaw01.CalcRounds", spec := "calcRounds", named := ["math/bits.divideError", "math/bits.overflowError"], apart := false, narrowed := true }
def CalcRoundsUptoSaid : Prop := calcRoundsUptoRow.holds Try.pinned (OpenSpec.upto calcRoundsSpec)

/-- 'bottomrylaw01.CalcLists', WHERE WHAT IT READS IS OF BULK AT MOST 1048576: true; the input reads as it did. -/
def calcListsUptoRow : OpenClaim := { program := "ytpkicpmbpeginaa", sum := "e66bf485140b9f2fcf52247b0b82a27449ad25ed63dec3987ddadb3ed2ae9211", func := "bottomry/bottomrylaw01.CalcLists", spec := "calcLists", named := ["math/bits.divideError", "math/bits.overflowError"], apart := false, narrowed := true }
def CalcListsUptoSaid : Prop := calcListsUptoRow.holds Try.pinned (OpenSpec.upto calcListsSpec)

/-- 'bottomrylaw01.CalcSums', WHERE WHAT IT READS IS OF BULK AT MOST 1048576: true; the input reads as it did. -/
def calcSumsUptoRow : OpenClaim := { program := "ytpkicpmbpeginaa", sum := "e66bf485140b9f2fcf52247b0b82a27449ad25ed63dec3987ddadb3ed2ae9211", func := "bottomry/bottomrylaw01.CalcSums", spec := "calcSums", named := ["math/bits.divideError", "math/bits.overflowError"], apart := false, narrowed := true }
def CalcSumsUptoSaid : Prop := calcSumsUptoRow.holds Try.pinned (OpenSpec.upto calcSumsSpec)

/-- 'bottomrylaw01.CalcBack', WHERE WHAT IT READS IS OF BULK AT MOST 1048576: true; the input reads as it did. -/
def calcBackUptoRow : OpenClaim := { program := "ytpkicpmbpeginaa", sum := "e66bf485140b9f2fcf52247b0b82a27449ad25ed63dec3987ddadb3ed2ae9211", func := "bottomry/bottomrylaw01.CalcBack", spec := "calcBack", named := ["math/bits.divideError", "math/bits.overflowError"], apart := false, narrowed := true }
def CalcBackUptoSaid : Prop := calcBackUptoRow.holds Try.pinned (OpenSpec.upto calcBackSpec)

end Rows
end Go.Proofs.Ytpkicpmbpeginaa
