/-
  DERIVED. GIVEN WITH THE SEED: THE CARDS: each row of YtlhalhilnkneeaaGreatDoorRows.lean that lists a variable, with what it lists TIED to the program's text (the seventh form; the later family's looks); each row that meets fmt, with fmt's text TOLD by the authors' own Lean function (tested against real Go, not proved from fmt's source: count such statements apart). THE CARD IS WHAT COUNTS. Prove the row's statement (the work); the ties are given (YtlhalhilnkneeaaGreatDoorTie.lean); close each card by the builder's one call (the guide's Derived/Test/ToyasCard.lean, 'card_holds'). Laid BY PROGRAM, IN A SANDBOX (cutbox-door.mjs). By AI agents, Wed Nov 11 2026. No macro, syntax, notation, axiom, sorry.
-/
import Derived.Test.YtlhalhilnkneeaaGreatDoorRows
import GoSem.ClaimSeven
namespace Go.Proofs.YtlhalhilnkneeaaGreatDoor
namespace Rows

/-- THE TIED CARD OF 'bottomrylaw38.AsmTexts'. -/
def asmTextsCard : Claim7 := { stood := { row := asmTextsRow, standIns := [], harness := (true, "0995661362837ca777b7fc6f34bc11ec5893ae5c747dd978bfc3bfa3f868a819"), looks := true }, kinds := [], alts := [], laidByText := true, laidKinds := [.data, .data, .data, .data, .sentinel, .sentinel, .listed, .data, .pinned], laidTests := true, laidLooks := .later }
def AsmTextsCardSaid : Prop := Claim7.holds Tryz.pinned (.plain (OpenSpec.ofChange asmTextsSpec)) asmTextsCard

/-- THE TIED CARD OF 'bottomrylaw38.AsmBack'. -/
def asmBackCard : Claim7 := { stood := { row := asmBackRow, standIns := [], harness := (true, "0995661362837ca777b7fc6f34bc11ec5893ae5c747dd978bfc3bfa3f868a819"), looks := true }, kinds := [], alts := [], laidByText := true, laidKinds := [.data, .data, .data, .data, .sentinel, .sentinel, .listed, .data, .pinned], laidTests := true, laidLooks := .later }
def AsmBackCardSaid : Prop := Claim7.holds Tryz.pinned (.plain (OpenSpec.ofChange asmBackSpec)) asmBackCard

/-- THE TIED CARD OF 'bottomrylaw38.AsmMany'. -/
def asmManyCard : Claim7 := { stood := { row := asmManyRow, standIns := [], harness := (true, "0995661362837ca777b7fc6f34bc11ec5893ae5c747dd978bfc3bfa3f868a819"), looks := true }, kinds := [], alts := [], laidByText := true, laidKinds := [.data, .data, .data, .data, .sentinel, .sentinel, .listed, .data, .pinned], laidTests := true, laidLooks := .later }
def AsmManyCardSaid : Prop := Claim7.holds Tryz.pinned (.plain (OpenSpec.ofChange asmManySpec)) asmManyCard

/-- THE TIED CARD OF 'bottomrylaw38.AsmPacks'. -/
def asmPacksCard : Claim7 := { stood := { row := asmPacksRow, standIns := [], harness := (true, "0995661362837ca777b7fc6f34bc11ec5893ae5c747dd978bfc3bfa3f868a819"), looks := true }, kinds := [], alts := [], laidByText := true, laidKinds := [.data, .data, .data, .data, .sentinel, .sentinel, .listed, .data, .pinned], laidTests := true, laidLooks := .later }
def AsmPacksCardSaid : Prop := Claim7.holds Tryz.pinned (.plain (OpenSpec.ofChange asmPacksSpec)) asmPacksCard

/-- THE SECOND FORM's CARD OF 'bottomrylaw38.AsmTexts'. -/
def asmTextsUptoCard : Claim7 := { stood := { row := asmTextsUptoRow, standIns := [], harness := (true, "0995661362837ca777b7fc6f34bc11ec5893ae5c747dd978bfc3bfa3f868a819"), looks := true }, kinds := [], alts := [], laidByText := true, laidKinds := [.data, .data, .data, .data, .sentinel, .sentinel, .listed, .data, .pinned], laidTests := true, laidLooks := .later }
def AsmTextsUptoCardSaid : Prop := Claim7.holds Tryz.pinned (.plain (OpenSpec.upto asmTextsSpec)) asmTextsUptoCard

/-- THE SECOND FORM's CARD OF 'bottomrylaw38.AsmBack'. -/
def asmBackUptoCard : Claim7 := { stood := { row := asmBackUptoRow, standIns := [], harness := (true, "0995661362837ca777b7fc6f34bc11ec5893ae5c747dd978bfc3bfa3f868a819"), looks := true }, kinds := [], alts := [], laidByText := true, laidKinds := [.data, .data, .data, .data, .sentinel, .sentinel, .listed, .data, .pinned], laidTests := true, laidLooks := .later }
def AsmBackUptoCardSaid : Prop := Claim7.holds Tryz.pinned (.plain (OpenSpec.upto asmBackSpec)) asmBackUptoCard

/-- THE SECOND FORM's CARD OF 'bottomrylaw38.AsmMany'. -/
def asmManyUptoCard : Claim7 := { stood := { row := asmManyUptoRow, standIns := [], harness := (true, "0995661362837ca777b7fc6f34bc11ec5893ae5c747dd978bfc3bfa3f868a819"), looks := true }, kinds := [], alts := [], laidByText := true, laidKinds := [.data, .data, .data, .data, .sentinel, .sentinel, .listed, .data, .pinned], laidTests := true, laidLooks := .later }
def AsmManyUptoCardSaid : Prop := Claim7.holds Tryz.pinned (.plain (OpenSpec.upto asmManySpec)) asmManyUptoCard

/-- THE SECOND FORM's CARD OF 'bottomrylaw38.AsmPacks'. -/
def asmPacksUptoCard : Claim7 := { stood := { row := asmPacksUptoRow, standIns := [], harness := (true, "0995661362837ca777b7fc6f34bc11ec5893ae5c747dd978bfc3bfa3f868a819"), looks := true }, kinds := [], alts := [], laidByText := true, laidKinds := [.data, .data, .data, .data, .sentinel, .sentinel, .listed, .data, .pinned], laidTests := true, laidLooks := .later }
def AsmPacksUptoCardSaid : Prop := Claim7.holds Tryz.pinned (.plain (OpenSpec.upto asmPacksSpec)) asmPacksUptoCard
end Rows
end Go.Proofs.YtlhalhilnkneeaaGreatDoor
