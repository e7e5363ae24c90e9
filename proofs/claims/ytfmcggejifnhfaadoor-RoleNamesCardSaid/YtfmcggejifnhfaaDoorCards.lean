/-
  DERIVED. GIVEN WITH THE SEED: THE CARDS: each row of YtfmcggejifnhfaaDoorRows.lean that lists a variable, with what it lists TIED to the program's text (the seventh form; the later family's looks); each row that meets fmt, with fmt's text TOLD by the authors' own Lean function (tested against real Go, not proved from fmt's source: count such statements apart). THE CARD IS WHAT COUNTS. Prove the row's statement (the work); the ties are given (YtfmcggejifnhfaaDoorTie.lean); close each card by the builder's one call (the guide's Derived/Test/ToyasCard.lean, 'card_holds'). Laid BY PROGRAM, IN A SANDBOX (cutbox-door.mjs). By AI agents, Wed Nov 11 2026. No macro, syntax, notation, axiom, sorry.
-/
import Derived.Test.YtfmcggejifnhfaaDoorRows
import GoSem.ClaimSeven
namespace Go.Proofs.YtfmcggejifnhfaaDoor
namespace Rows

/-- THE TIED CARD OF 'bottomrylaw25.RoleNames'. -/
def roleNamesCard : Claim7 := { stood := { row := roleNamesRow, standIns := [], harness := (true, "c5eea0f1167404ddc0c8c25749c94b9b4a7aff95ffaf17dfd7e086ea418f34cf"), looks := false }, kinds := [], alts := [], laidByText := true, laidKinds := [.data, .pinned], laidTests := true, laidLooks := .later }
def RoleNamesCardSaid : Prop := Claim7.holds Tryd.pinned (.plain (OpenSpec.ofChange roleNamesSpec)) roleNamesCard

/-- THE TIED CARD OF 'bottomrylaw25.RoleGrows'. -/
def roleGrowsCard : Claim7 := { stood := { row := roleGrowsRow, standIns := [], harness := (true, "c5eea0f1167404ddc0c8c25749c94b9b4a7aff95ffaf17dfd7e086ea418f34cf"), looks := false }, kinds := [], alts := [], laidByText := true, laidKinds := [.data, .pinned], laidTests := true, laidLooks := .later }
def RoleGrowsCardSaid : Prop := Claim7.holds Tryd.pinned (.plain (OpenSpec.ofChange roleGrowsSpec)) roleGrowsCard

/-- THE TIED CARD OF 'bottomrylaw25.RoleAllows'. -/
def roleAllowsCard : Claim7 := { stood := { row := roleAllowsRow, standIns := [], harness := (true, "c5eea0f1167404ddc0c8c25749c94b9b4a7aff95ffaf17dfd7e086ea418f34cf"), looks := false }, kinds := [], alts := [], laidByText := true, laidKinds := [.data, .pinned], laidTests := true, laidLooks := .later }
def RoleAllowsCardSaid : Prop := Claim7.holds Tryd.pinned (.plain (OpenSpec.ofChange roleAllowsSpec)) roleAllowsCard

/-- THE SECOND FORM's CARD OF 'bottomrylaw25.RoleNames'. -/
def roleNamesUptoCard : Claim7 := { stood := { row := roleNamesUptoRow, standIns := [], harness := (true, "c5eea0f1167404ddc0c8c25749c94b9b4a7aff95ffaf17dfd7e086ea418f34cf"), looks := false }, kinds := [], alts := [], laidByText := true, laidKinds := [.data, .pinned], laidTests := true, laidLooks := .later }
def RoleNamesUptoCardSaid : Prop := Claim7.holds Tryd.pinned (.plain (OpenSpec.upto roleNamesSpec)) roleNamesUptoCard

/-- THE SECOND FORM's CARD OF 'bottomrylaw25.RoleGrows'. -/
def roleGrowsUptoCard : Claim7 := { stood := { row := roleGrowsUptoRow, standIns := [], harness := (true, "c5eea0f1167404ddc0c8c25749c94b9b4a7aff95ffaf17dfd7e086ea418f34cf"), looks := false }, kinds := [], alts := [], laidByText := true, laidKinds := [.data, .pinned], laidTests := true, laidLooks := .later }
def RoleGrowsUptoCardSaid : Prop := Claim7.holds Tryd.pinned (.plain (OpenSpec.upto roleGrowsSpec)) roleGrowsUptoCard

/-- THE SECOND FORM's CARD OF 'bottomrylaw25.RoleAllows'. -/
def roleAllowsUptoCard : Claim7 := { stood := { row := roleAllowsUptoRow, standIns := [], harness := (true, "c5eea0f1167404ddc0c8c25749c94b9b4a7aff95ffaf17dfd7e086ea418f34cf"), looks := false }, kinds := [], alts := [], laidByText := true, laidKinds := [.data, .pinned], laidTests := true, laidLooks := .later }
def RoleAllowsUptoCardSaid : Prop := Claim7.holds Tryd.pinned (.plain (OpenSpec.upto roleAllowsSpec)) roleAllowsUptoCard
end Rows
end Go.Proofs.YtfmcggejifnhfaaDoor
