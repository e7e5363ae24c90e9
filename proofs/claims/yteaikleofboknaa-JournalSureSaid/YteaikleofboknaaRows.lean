/-
  No cell of these rows narrows 'for every input' (looked for: loops, veiled, ifaces, maps, wideKeys, modest, calm, conditions, laid).
  DERIVED. THE GIVEN ROWS OF THIS SEAT. 3 by the template 'for every input the law returns true; each argument reads behind the call as it read before'; 0 by the template 'total and deterministic' (their statements: YteaikleofboknaaTotals.lean).
  GIVEN WITH THE SEED: the statements are not yours to turn. If you find one false, say at which input.
  Laid BY PROGRAM, IN A SANDBOX (cutbox-rows.mjs): the forced cells as the released guide's own fill.sh prints them over the translation 84d535c3c34018bf… (all of the seat's roots in one cut). By AI agents, Wed Nov 11 2026. No macro, syntax, notation, axiom, sorry.
-/
import Derived.Test.YteaikleofboknaaChecked
import GoSem.Claim
import GoSem.ClaimJoined
import GoSem.ClaimMapViews
import Derived.JoinedTies
import Derived.KernelRfl
namespace Go.Proofs.Yteaikleofboknaa
/- THE CELL 'sum', in the pinned program and in every row, IS THE sha256 OF THE DUMP (.gsa) THAT YteaikleofboknaaProg.lean LOADS. Nothing in Lean hashes anything: it is a label: what it is worth is what the hold of that sum in a sandbox is worth. -/
noncomputable def Try.pinned : Pinned := { name := "yteaikleofboknaa", sum := "84d535c3c34018bfbd2b3aa71b747fd7dab22634ef72bf3fae15de84cf728951", checked := Try.checked }
namespace Rows
def none {H : Type} : Left H := { results := [], args := [] }

/-- 'bottomrylaw33.JournalFull': WHATEVER THE INPUT: true; the input reads as it did. -/
def journalFullSpec : ChangeSpec := { name := "journalFull", fn := fun _ => fun
  | [d1, d2] => { results := [.lit (.bool true)], args := [d1, d2] }
  | _ => none }
def journalFullRow : OpenClaim := { program := "yteaikleofboknaa", sum := "84d535c3c34018bfbd2b3aa71b747fd7dab22634ef72bf3fae15de84cf728951", func := "bottomry/bottomrylaw33.JournalFull", spec := "journalFull", inPlace := ["internal/abi.NoEscape", "internal/bytealg.MakeNoZero"], unfollowed := true, recurses := true, apart := false }
def JournalFullSaid : Prop := journalFullRow.holds Try.pinned (OpenSpec.ofChange journalFullSpec)

/-- ITS FALSE NEIGHBOUR: 'it returns false'. Refute it at one input. -/
def journalFullWrong : ChangeSpec := { name := "journalFull", fn := fun _ => fun
  | [d1, d2] => { results := [.lit (.bool false)], args := [d1, d2] }
  | _ => none }
def JournalFullWrongFalsely : Prop := journalFullRow.holds Try.pinned (OpenSpec.ofChange journalFullWrong)

/-- 'bottomrylaw33.JournalNobody': WHATEVER THE INPUT: true; the input reads as it did. -/
def journalNobodySpec : ChangeSpec := { name := "journalNobody", fn := fun _ => fun
  | [d] => { results := [.lit (.bool true)], args := [d] }
  | _ => none }
def journalNobodyRow : OpenClaim := { program := "yteaikleofboknaa", sum := "84d535c3c34018bfbd2b3aa71b747fd7dab22634ef72bf3fae15de84cf728951", func := "bottomry/bottomrylaw33.JournalNobody", spec := "journalNobody", inPlace := ["internal/abi.NoEscape", "internal/bytealg.MakeNoZero"], unfollowed := true, recurses := true, apart := false }
def JournalNobodySaid : Prop := journalNobodyRow.holds Try.pinned (OpenSpec.ofChange journalNobodySpec)

/-- ITS FALSE NEIGHBOUR: 'it returns false'. Refute it at one input. -/
def journalNobodyWrong : ChangeSpec := { name := "journalNobody", fn := fun _ => fun
  | [d] => { results := [.lit (.bool false)], args := [d] }
  | _ => none }
def JournalNobodyWrongFalsely : Prop := journalNobodyRow.holds Try.pinned (OpenSpec.ofChange journalNobodyWrong)

/-- 'bottomrylaw33.JournalSure': WHATEVER THE INPUT: true; the input reads as it did. -/
def journalSureSpec : ChangeSpec := { name := "journalSure", fn := fun _ => fun
  | [d] => { results := [.lit (.bool true)], args := [d] }
  | _ => none }
def journalSureRow : OpenClaim := { program := "yteaikleofboknaa", sum := "84d535c3c34018bfbd2b3aa71b747fd7dab22634ef72bf3fae15de84cf728951", func := "bottomry/bottomrylaw33.JournalSure", spec := "journalSure", inPlace := ["internal/abi.NoEscape", "internal/bytealg.MakeNoZero"], unfollowed := true, recurses := true, apart := false }
def JournalSureSaid : Prop := journalSureRow.holds Try.pinned (OpenSpec.ofChange journalSureSpec)

/-- ITS FALSE NEIGHBOUR: 'it returns false'. Refute it at one input. -/
def journalSureWrong : ChangeSpec := { name := "journalSure", fn := fun _ => fun
  | [d] => { results := [.lit (.bool false)], args := [d] }
  | _ => none }
def JournalSureWrongFalsely : Prop := journalSureRow.holds Try.pinned (OpenSpec.ofChange journalSureWrong)

/- THE SECOND FORM. 'bulk': how many values and letters a reading holds, each counted each time it is reached (what is shared counts as often as it is met; a slice's spare places count too). A statement '..UptoSaid' is the law's where the arguments, and the package variables that the reading takes, are together of bulk at most 1048576: NARROWER than '..Said'. Prove '..Said' where nothing that the law and all that it calls make is longer than what came in: it says more and counts as full. Else prove '..UptoSaid'. A law counts once. -/
mutual
def uptoBulk {H : Type} : DataW H → Nat
  | .lit (.string bytes) => bytes.length + 1
  | .lit _ => 1
  | .nil => 1
  | .ptr d => uptoBulk d + 1
  | .slice elems spare => uptoBulkAll elems + uptoBulkAll spare + 1
  | .agg parts => uptoBulkAll parts + 1
  | .iface _ d => uptoBulk d + 1
  | .map entries => uptoBulkEntries entries + 1
  | .held _ => 1
def uptoBulkAll {H : Type} : List (DataW H) → Nat
  | [] => 0
  | d :: r => uptoBulk d + uptoBulkAll r
def uptoBulkEntries {H : Type} : List (Lit × DataW H) → Nat
  | [] => 0
  | x :: r => uptoBulkEntry x + uptoBulkEntries r
def uptoBulkEntry {H : Type} : Lit × DataW H → Nat
  | (.string bytes, d) => bytes.length + uptoBulk d + 1
  | (_, d) => uptoBulk d + 1
 end
def uptoSmall : (H : Type) → List (DataW H) → Bool := fun _ ds => decide (uptoBulkAll ds ≤ 1048576)
def OpenSpec.upto (s : _root_.Go.ChangeSpec) : _root_.Go.OpenSpec := { _root_.Go.OpenSpec.ofChange s with cond := some uptoSmall }

/-- 'bottomrylaw33.JournalFull', WHERE WHAT IT READS IS OF BULK AT MOST 1048576: true; the input reads as it did. -/
def journalFullUptoRow : OpenClaim := { program := "yteaikleofboknaa", sum := "84d535c3c34018bfbd2b3aa71b747fd7dab22634ef72bf3fae15de84cf728951", func := "bottomry/bottomrylaw33.JournalFull", spec := "journalFull", inPlace := ["internal/abi.NoEscape", "internal/bytealg.MakeNoZero"], unfollowed := true, recurses := true, apart := false, narrowed := true }
def JournalFullUptoSaid : Prop := journalFullUptoRow.holds Try.pinned (OpenSpec.upto journalFullSpec)

/-- 'bottomrylaw33.JournalNobody', WHERE WHAT IT READS IS OF BULK AT MOST 1048576: true; the input reads as it did. -/
def journalNobodyUptoRow : OpenClaim := { program := "yteaikleofboknaa", sum := "84d535c3c34018bfbd2b3aa71b747fd7dab22634ef72bf3fae15de84cf728951", func := "bottomry/bottomrylaw33.JournalNobody", spec := "journalNobody", inPlace := ["internal/abi.NoEscape", "internal/bytealg.MakeNoZero"], unfollowed := true, recurses := true, apart := false, narrowed := true }
def JournalNobodyUptoSaid : Prop := journalNobodyUptoRow.holds Try.pinned (OpenSpec.upto journalNobodySpec)

/-- 'bottomrylaw33.JournalSure', WHERE WHAT IT READS IS OF BULK AT MOST 1048576: true; the input reads as it did. -/
def journalSureUptoRow : OpenClaim := { program := "yteaikleofboknaa", sum := "84d535c3c34018bfbd2b3aa71b747fd7dab22634ef72bf3fae15de84cf728951", func := "bottomry/bottomrylaw33.JournalSure", spec := "journalSure", inPlace := ["internal/abi.NoEscape", "internal/bytealg.MakeNoZero"], unfollowed := true, recurses := true, apart := false, narrowed := true }
def JournalSureUptoSaid : Prop := journalSureUptoRow.holds Try.pinned (OpenSpec.upto journalSureSpec)

end Rows
end Go.Proofs.Yteaikleofboknaa
