/-
  DERIVED. GIVEN WITH THE SEED: THE CARDS: each row of YtbjlkeneeodghaaDoorRows.lean that lists a variable, with what it lists TIED to the program's text (the seventh form; the later family's looks); each row that meets fmt, with fmt's text TOLD by the authors' own Lean function (tested against real Go, not proved from fmt's source: count such statements apart). THE CARD IS WHAT COUNTS. Prove the row's statement (the work); the ties are given (YtbjlkeneeodghaaDoorTie.lean); close each card by the builder's one call (the guide's Derived/Test/ToyasCard.lean, 'card_holds'). Laid BY PROGRAM, IN A SANDBOX (cutbox-door.mjs). By AI agents, Wed Nov 11 2026. No macro, syntax, notation, axiom, sorry.
-/
import Derived.Test.YtbjlkeneeodghaaDoorRows
import GoSem.ClaimSeven
namespace Go.Proofs.YtbjlkeneeodghaaDoor
namespace Rows

/-- THE TIED CARD OF 'bottomrylaw28.CmdPuts'. -/
def cmdPutsCard : Claim7 := { stood := { row := cmdPutsRow, standIns := [], harness := (true, "cc0f30d2f285669ef34e02e1a44816c4462e1172a1f1a5789fce7882a631ab24"), looks := false }, kinds := [], alts := [], laidByText := true, laidKinds := [.listed, .data], laidTests := true, laidLooks := .later }
def CmdPutsCardSaid : Prop := Claim7.holds Tryd.pinned (.plain (OpenSpec.ofChange cmdPutsSpec)) cmdPutsCard

/-- THE TIED CARD OF 'bottomrylaw28.CmdBack'. -/
def cmdBackCard : Claim7 := { stood := { row := cmdBackRow, standIns := [], harness := (true, "cc0f30d2f285669ef34e02e1a44816c4462e1172a1f1a5789fce7882a631ab24"), looks := false }, kinds := [], alts := [], laidByText := true, laidKinds := [.listed, .data], laidTests := true, laidLooks := .later }
def CmdBackCardSaid : Prop := Claim7.holds Tryd.pinned (.plain (OpenSpec.ofChange cmdBackSpec)) cmdBackCard

/-- THE TIED CARD OF 'bottomrylaw28.CmdFields'. -/
def cmdFieldsCard : Claim7 := { stood := { row := cmdFieldsRow, standIns := [], harness := (true, "cc0f30d2f285669ef34e02e1a44816c4462e1172a1f1a5789fce7882a631ab24"), looks := false }, kinds := [], alts := [], laidByText := true, laidKinds := [.listed, .data], laidTests := true, laidLooks := .later }
def CmdFieldsCardSaid : Prop := Claim7.holds Tryd.pinned (.plain (OpenSpec.ofChange cmdFieldsSpec)) cmdFieldsCard

/-- THE TIED CARD OF 'bottomrylaw28.CmdKinds'. -/
def cmdKindsCard : Claim7 := { stood := { row := cmdKindsRow, standIns := [], harness := (true, "cc0f30d2f285669ef34e02e1a44816c4462e1172a1f1a5789fce7882a631ab24"), looks := false }, kinds := [], alts := [], laidByText := true, laidKinds := [.listed, .data], laidTests := true, laidLooks := .later }
def CmdKindsCardSaid : Prop := Claim7.holds Tryd.pinned (.plain (OpenSpec.ofChange cmdKindsSpec)) cmdKindsCard

/-- THE SECOND FORM's CARD OF 'bottomrylaw28.CmdPuts'. -/
def cmdPutsUptoCard : Claim7 := { stood := { row := cmdPutsUptoRow, standIns := [], harness := (true, "cc0f30d2f285669ef34e02e1a44816c4462e1172a1f1a5789fce7882a631ab24"), looks := false }, kinds := [], alts := [], laidByText := true, laidKinds := [.listed, .data], laidTests := true, laidLooks := .later }
def CmdPutsUptoCardSaid : Prop := Claim7.holds Tryd.pinned (.plain (OpenSpec.upto cmdPutsSpec)) cmdPutsUptoCard

/-- THE SECOND FORM's CARD OF 'bottomrylaw28.CmdBack'. -/
def cmdBackUptoCard : Claim7 := { stood := { row := cmdBackUptoRow, standIns := [], harness := (true, "cc0f30d2f285669ef34e02e1a44816c4462e1172a1f1a5789fce7882a631ab24"), looks := false }, kinds := [], alts := [], laidByText := true, laidKinds := [.listed, .data], laidTests := true, laidLooks := .later }
def CmdBackUptoCardSaid : Prop := Claim7.holds Tryd.pinned (.plain (OpenSpec.upto cmdBackSpec)) cmdBackUptoCard

/-- THE SECOND FORM's CARD OF 'bottomrylaw28.CmdFields'. -/
def cmdFieldsUptoCard : Claim7 := { stood := { row := cmdFieldsUptoRow, standIns := [], harness := (true, "cc0f30d2f285669ef34e02e1a44816c4462e1172a1f1a5789fce7882a631ab24"), looks := false }, kinds := [], alts := [], laidByText := true, laidKinds := [.listed, .data], laidTests := true, laidLooks := .later }
def CmdFieldsUptoCardSaid : Prop := Claim7.holds Tryd.pinned (.plain (OpenSpec.upto cmdFieldsSpec)) cmdFieldsUptoCard

/-- THE SECOND FORM's CARD OF 'bottomrylaw28.CmdKinds'. -/
def cmdKindsUptoCard : Claim7 := { stood := { row := cmdKindsUptoRow, standIns := [], harness := (true, "cc0f30d2f285669ef34e02e1a44816c4462e1172a1f1a5789fce7882a631ab24"), looks := false }, kinds := [], alts := [], laidByText := true, laidKinds := [.listed, .data], laidTests := true, laidLooks := .later }
def CmdKindsUptoCardSaid : Prop := Claim7.holds Tryd.pinned (.plain (OpenSpec.upto cmdKindsSpec)) cmdKindsUptoCard
end Rows
end Go.Proofs.YtbjlkeneeodghaaDoor
