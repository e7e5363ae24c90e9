/-
  DERIVED. GIVEN WITH THE SEED: THE CARDS: each row of YtmaddebfoefckaaDoorRows.lean that lists a variable, with what it lists TIED to the program's text (the seventh form; the later family's looks); each row that meets fmt, with fmt's text TOLD by the authors' own Lean function (tested against real Go, not proved from fmt's source: count such statements apart). THE CARD IS WHAT COUNTS. Prove the row's statement (the work); the ties are given (YtmaddebfoefckaaDoorTie.lean); close each card by the builder's one call (the guide's Derived/Test/ToyasCard.lean, 'card_holds'). Laid BY PROGRAM, IN A SANDBOX (cutbox-door.mjs). By AI agents, Wed Nov 11 2026. No macro, syntax, notation, axiom, sorry.
-/
import Derived.Test.YtmaddebfoefckaaDoorRows
import GoSem.ClaimSeven
namespace Go.Proofs.YtmaddebfoefckaaDoor
namespace Rows

/-- THE TIED CARD OF 'bottomrylaw29.ReplyPuts'. -/
def replyPutsCard : Claim7 := { stood := { row := replyPutsRow, standIns := [], harness := (true, "535c9bdaf113a2ff012177c842aeb67515d15772815afbfb5ba1271a97db2266"), looks := false }, kinds := [], alts := [], laidByText := true, laidKinds := [.data, .data, .data, .listed, .data], laidTests := true, laidLooks := .later }
def ReplyPutsCardSaid : Prop := Claim7.holds Tryd.pinned (.plain (OpenSpec.ofChange replyPutsSpec)) replyPutsCard

/-- THE TIED CARD OF 'bottomrylaw29.ReplyBack'. -/
def replyBackCard : Claim7 := { stood := { row := replyBackRow, standIns := [], harness := (true, "535c9bdaf113a2ff012177c842aeb67515d15772815afbfb5ba1271a97db2266"), looks := false }, kinds := [], alts := [], laidByText := true, laidKinds := [.data, .data, .data, .listed, .data], laidTests := true, laidLooks := .later }
def ReplyBackCardSaid : Prop := Claim7.holds Tryd.pinned (.plain (OpenSpec.ofChange replyBackSpec)) replyBackCard

/-- THE SECOND FORM's CARD OF 'bottomrylaw29.ReplyPuts'. -/
def replyPutsUptoCard : Claim7 := { stood := { row := replyPutsUptoRow, standIns := [], harness := (true, "535c9bdaf113a2ff012177c842aeb67515d15772815afbfb5ba1271a97db2266"), looks := false }, kinds := [], alts := [], laidByText := true, laidKinds := [.data, .data, .data, .listed, .data], laidTests := true, laidLooks := .later }
def ReplyPutsUptoCardSaid : Prop := Claim7.holds Tryd.pinned (.plain (OpenSpec.upto replyPutsSpec)) replyPutsUptoCard

/-- THE SECOND FORM's CARD OF 'bottomrylaw29.ReplyBack'. -/
def replyBackUptoCard : Claim7 := { stood := { row := replyBackUptoRow, standIns := [], harness := (true, "535c9bdaf113a2ff012177c842aeb67515d15772815afbfb5ba1271a97db2266"), looks := false }, kinds := [], alts := [], laidByText := true, laidKinds := [.data, .data, .data, .listed, .data], laidTests := true, laidLooks := .later }
def ReplyBackUptoCardSaid : Prop := Claim7.holds Tryd.pinned (.plain (OpenSpec.upto replyBackSpec)) replyBackUptoCard
end Rows
end Go.Proofs.YtmaddebfoefckaaDoor
