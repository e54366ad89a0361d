/-
  DERIVED. GIVEN WITH THE SEED: THE CARDS: each row of YtnmolpkkemljoaaGreatDoorRows.lean that lists a variable, with what it lists TIED to the program's text (the seventh form; the later family's looks); each row that meets fmt, with fmt's text TOLD by the authors' own Lean function (tested against real Go, not proved from fmt's source: count such statements apart). THE CARD IS WHAT COUNTS. Prove the row's statement (the work); the ties are given (YtnmolpkkemljoaaGreatDoorTie.lean); close each card by the builder's one call (the guide's Derived/Test/ToyasCard.lean, 'card_holds'). Laid BY PROGRAM, IN A SANDBOX (cutbox-door.mjs). By AI agents, Wed Nov 11 2026. No macro, syntax, notation, axiom, sorry.
-/
import Derived.Test.YtnmolpkkemljoaaGreatDoorRows
import GoSem.ClaimSeven
namespace Go.Proofs.YtnmolpkkemljoaaGreatDoor
namespace Rows

/-- THE TIED CARD OF 'sheafworkslaw08.KindUnifies'. -/
def kindUnifiesCard : Claim7 := { stood := { row := kindUnifiesRow, standIns := [], harness := (true, "ea5e89dd5a6f094bc7dfb8a7246475ba603932d0e7a761c5f638071be75f3485"), looks := true }, kinds := [], alts := [], laidByText := true, laidKinds := [.data, .data, .data, .sentinel, .sentinel], laidTests := true, laidLooks := .later }
def KindUnifiesCardSaid : Prop := Claim7.holds Tryz.pinned (.plain (OpenSpec.ofChange kindUnifiesSpec)) kindUnifiesCard

/-- THE TIED CARD OF 'sheafworkslaw08.KindReads'. -/
def kindReadsCard : Claim7 := { stood := { row := kindReadsRow, standIns := [], harness := (true, "ea5e89dd5a6f094bc7dfb8a7246475ba603932d0e7a761c5f638071be75f3485"), looks := true }, kinds := [], alts := [], laidByText := true, laidKinds := [.data, .data, .data, .sentinel, .sentinel], laidTests := true, laidLooks := .later }
def KindReadsCardSaid : Prop := Claim7.holds Tryz.pinned (.plain (OpenSpec.ofChange kindReadsSpec)) kindReadsCard

/-- THE TIED CARD OF 'sheafworkslaw08.KindTexts'. -/
def kindTextsCard : Claim7 := { stood := { row := kindTextsRow, standIns := [], harness := (true, "ea5e89dd5a6f094bc7dfb8a7246475ba603932d0e7a761c5f638071be75f3485"), looks := true }, kinds := [], alts := [], laidByText := true, laidKinds := [.data, .data, .data, .sentinel, .sentinel], laidTests := true, laidLooks := .later }
def KindTextsCardSaid : Prop := Claim7.holds Tryz.pinned (.plain (OpenSpec.ofChange kindTextsSpec)) kindTextsCard

/-- THE TIED CARD OF 'sheafworkslaw08.KindWidths'. -/
def kindWidthsCard : Claim7 := { stood := { row := kindWidthsRow, standIns := [], harness := (true, "ea5e89dd5a6f094bc7dfb8a7246475ba603932d0e7a761c5f638071be75f3485"), looks := true }, kinds := [], alts := [], laidByText := true, laidKinds := [.data, .data, .data, .sentinel, .sentinel], laidTests := true, laidLooks := .later }
def KindWidthsCardSaid : Prop := Claim7.holds Tryz.pinned (.plain (OpenSpec.ofChange kindWidthsSpec)) kindWidthsCard

/-- THE TIED CARD OF 'sheafworkslaw08.KindPuts'. -/
def kindPutsCard : Claim7 := { stood := { row := kindPutsRow, standIns := [], harness := (true, "ea5e89dd5a6f094bc7dfb8a7246475ba603932d0e7a761c5f638071be75f3485"), looks := true }, kinds := [], alts := [], laidByText := true, laidKinds := [.data, .data, .data, .sentinel, .sentinel], laidTests := true, laidLooks := .later }
def KindPutsCardSaid : Prop := Claim7.holds Tryz.pinned (.plain (OpenSpec.ofChange kindPutsSpec)) kindPutsCard

/-- THE TIED CARD OF 'sheafworkslaw08.KindMost'. -/
def kindMostCard : Claim7 := { stood := { row := kindMostRow, standIns := [], harness := (true, "ea5e89dd5a6f094bc7dfb8a7246475ba603932d0e7a761c5f638071be75f3485"), looks := true }, kinds := [], alts := [], laidByText := true, laidKinds := [.data, .data, .data, .sentinel, .sentinel], laidTests := true, laidLooks := .later }
def KindMostCardSaid : Prop := Claim7.holds Tryz.pinned (.plain (OpenSpec.ofChange kindMostSpec)) kindMostCard

/-- THE TIED CARD OF 'sheafworkslaw08.KindChecks'. -/
def kindChecksCard : Claim7 := { stood := { row := kindChecksRow, standIns := [], harness := (true, "ea5e89dd5a6f094bc7dfb8a7246475ba603932d0e7a761c5f638071be75f3485"), looks := true }, kinds := [], alts := [], laidByText := true, laidKinds := [.data, .data, .data, .sentinel, .sentinel], laidTests := true, laidLooks := .later }
def KindChecksCardSaid : Prop := Claim7.holds Tryz.pinned (.plain (OpenSpec.ofChange kindChecksSpec)) kindChecksCard

/-- THE TIED CARD OF 'sheafworkslaw08.KindLeast'. -/
def kindLeastCard : Claim7 := { stood := { row := kindLeastRow, standIns := [], harness := (true, "ea5e89dd5a6f094bc7dfb8a7246475ba603932d0e7a761c5f638071be75f3485"), looks := true }, kinds := [], alts := [], laidByText := true, laidKinds := [.data, .data, .data, .sentinel, .sentinel], laidTests := true, laidLooks := .later }
def KindLeastCardSaid : Prop := Claim7.holds Tryz.pinned (.plain (OpenSpec.ofChange kindLeastSpec)) kindLeastCard

/-- THE TIED CARD OF 'sheafworkslaw08.KindNames'. -/
def kindNamesCard : Claim7 := { stood := { row := kindNamesRow, standIns := [], harness := (true, "ea5e89dd5a6f094bc7dfb8a7246475ba603932d0e7a761c5f638071be75f3485"), looks := true }, kinds := [], alts := [], laidByText := true, laidKinds := [.data, .data, .data, .sentinel, .sentinel], laidTests := true, laidLooks := .later }
def KindNamesCardSaid : Prop := Claim7.holds Tryz.pinned (.plain (OpenSpec.ofChange kindNamesSpec)) kindNamesCard

/-- THE TIED CARD OF 'sheafworkslaw08.KindInstances'. -/
def kindInstancesCard : Claim7 := { stood := { row := kindInstancesRow, standIns := [], harness := (true, "ea5e89dd5a6f094bc7dfb8a7246475ba603932d0e7a761c5f638071be75f3485"), looks := true }, kinds := [], alts := [], laidByText := true, laidKinds := [.data, .data, .data, .sentinel, .sentinel], laidTests := true, laidLooks := .later }
def KindInstancesCardSaid : Prop := Claim7.holds Tryz.pinned (.plain (OpenSpec.ofChange kindInstancesSpec)) kindInstancesCard

/-- THE TIED CARD OF 'sheafworkslaw08.KindNumbers'. -/
def kindNumbersCard : Claim7 := { stood := { row := kindNumbersRow, standIns := [], harness := (true, "ea5e89dd5a6f094bc7dfb8a7246475ba603932d0e7a761c5f638071be75f3485"), looks := true }, kinds := [], alts := [], laidByText := true, laidKinds := [.data, .data, .data, .sentinel, .sentinel], laidTests := true, laidLooks := .later }
def KindNumbersCardSaid : Prop := Claim7.holds Tryz.pinned (.plain (OpenSpec.ofChange kindNumbersSpec)) kindNumbersCard

/-- THE SECOND FORM's CARD OF 'sheafworkslaw08.KindUnifies'. -/
def kindUnifiesUptoCard : Claim7 := { stood := { row := kindUnifiesUptoRow, standIns := [], harness := (true, "ea5e89dd5a6f094bc7dfb8a7246475ba603932d0e7a761c5f638071be75f3485"), looks := true }, kinds := [], alts := [], laidByText := true, laidKinds := [.data, .data, .data, .sentinel, .sentinel], laidTests := true, laidLooks := .later }
def KindUnifiesUptoCardSaid : Prop := Claim7.holds Tryz.pinned (.plain (OpenSpec.upto kindUnifiesSpec)) kindUnifiesUptoCard

/-- THE SECOND FORM's CARD OF 'sheafworkslaw08.KindReads'. -/
def kindReadsUptoCard : Claim7 := { stood := { row := kindReadsUptoRow, standIns := [], harness := (true, "ea5e89dd5a6f094bc7dfb8a7246475ba603932d0e7a761c5f638071be75f3485"), looks := true }, kinds := [], alts := [], laidByText := true, laidKinds := [.data, .data, .data, .sentinel, .sentinel], laidTests := true, laidLooks := .later }
def KindReadsUptoCardSaid : Prop := Claim7.holds Tryz.pinned (.plain (OpenSpec.upto kindReadsSpec)) kindReadsUptoCard

/-- THE SECOND FORM's CARD OF 'sheafworkslaw08.KindTexts'. -/
def kindTextsUptoCard : Claim7 := { stood := { row := kindTextsUptoRow, standIns := [], harness := (true, "ea5e89dd5a6f094bc7dfb8a7246475ba603932d0e7a761c5f638071be75f3485"), looks := true }, kinds := [], alts := [], laidByText := true, laidKinds := [.data, .data, .data, .sentinel, .sentinel], laidTests := true, laidLooks := .later }
def KindTextsUptoCardSaid : Prop := Claim7.holds Tryz.pinned (.plain (OpenSpec.upto kindTextsSpec)) kindTextsUptoCard

/-- THE SECOND FORM's CARD OF 'sheafworkslaw08.KindWidths'. -/
def kindWidthsUptoCard : Claim7 := { stood := { row := kindWidthsUptoRow, standIns := [], harness := (true, "ea5e89dd5a6f094bc7dfb8a7246475ba603932d0e7a761c5f638071be75f3485"), looks := true }, kinds := [], alts := [], laidByText := true, laidKinds := [.data, .data, .data, .sentinel, .sentinel], laidTests := true, laidLooks := .later }
def KindWidthsUptoCardSaid : Prop := Claim7.holds Tryz.pinned (.plain (OpenSpec.upto kindWidthsSpec)) kindWidthsUptoCard

/-- THE SECOND FORM's CARD OF 'sheafworkslaw08.KindPuts'. -/
def kindPutsUptoCard : Claim7 := { stood := { row := kindPutsUptoRow, standIns := [], harness := (true, "ea5e89dd5a6f094bc7dfb8a7246475ba603932d0e7a761c5f638071be75f3485"), looks := true }, kinds := [], alts := [], laidByText := true, laidKinds := [.data, .data, .data, .sentinel, .sentinel], laidTests := true, laidLooks := .later }
def KindPutsUptoCardSaid : Prop := Claim7.holds Tryz.pinned (.plain (OpenSpec.upto kindPutsSpec)) kindPutsUptoCard

/-- THE SECOND FORM's CARD OF 'sheafworkslaw08.KindMost'. -/
def kindMostUptoCard : Claim7 := { stood := { row := kindMostUptoRow, standIns := [], harness := (true, "ea5e89dd5a6f094bc7dfb8a7246475ba603932d0e7a761c5f638071be75f3485"), looks := true }, kinds := [], alts := [], laidByText := true, laidKinds := [.data, .data, .data, .sentinel, .sentinel], laidTests := true, laidLooks := .later }
def KindMostUptoCardSaid : Prop := Claim7.holds Tryz.pinned (.plain (OpenSpec.upto kindMostSpec)) kindMostUptoCard

/-- THE SECOND FORM's CARD OF 'sheafworkslaw08.KindChecks'. -/
def kindChecksUptoCard : Claim7 := { stood := { row := kindChecksUptoRow, standIns := [], harness := (true, "ea5e89dd5a6f094bc7dfb8a7246475ba603932d0e7a761c5f638071be75f3485"), looks := true }, kinds := [], alts := [], laidByText := true, laidKinds := [.data, .data, .data, .sentinel, .sentinel], laidTests := true, laidLooks := .later }
def KindChecksUptoCardSaid : Prop := Claim7.holds Tryz.pinned (.plain (OpenSpec.upto kindChecksSpec)) kindChecksUptoCard

/-- THE SECOND FORM's CARD OF 'sheafworkslaw08.KindLeast'. -/
def kindLeastUptoCard : Claim7 := { stood := { row := kindLeastUptoRow, standIns := [], harness := (true, "ea5e89dd5a6f094bc7dfb8a7246475ba603932d0e7a761c5f638071be75f3485"), looks := true }, kinds := [], alts := [], laidByText := true, laidKinds := [.data, .data, .data, .sentinel, .sentinel], laidTests := true, laidLooks := .later }
def KindLeastUptoCardSaid : Prop := Claim7.holds Tryz.pinned (.plain (OpenSpec.upto kindLeastSpec)) kindLeastUptoCard

/-- THE SECOND FORM's CARD OF 'sheafworkslaw08.KindNames'. -/
def kindNamesUptoCard : Claim7 := { stood := { row := kindNamesUptoRow, standIns := [], harness := (true, "ea5e89dd5a6f094bc7dfb8a7246475ba603932d0e7a761c5f638071be75f3485"), looks := true }, kinds := [], alts := [], laidByText := true, laidKinds := [.data, .data, .data, .sentinel, .sentinel], laidTests := true, laidLooks := .later }
def KindNamesUptoCardSaid : Prop := Claim7.holds Tryz.pinned (.plain (OpenSpec.upto kindNamesSpec)) kindNamesUptoCard

/-- THE SECOND FORM's CARD OF 'sheafworkslaw08.KindInstances'. -/
def kindInstancesUptoCard : Claim7 := { stood := { row := kindInstancesUptoRow, standIns := [], harness := (true, "ea5e89dd5a6f094bc7dfb8a7246475ba603932d0e7a761c5f638071be75f3485"), looks := true }, kinds := [], alts := [], laidByText := true, laidKinds := [.data, .data, .data, .sentinel, .sentinel], laidTests := true, laidLooks := .later }
def KindInstancesUptoCardSaid : Prop := Claim7.holds Tryz.pinned (.plain (OpenSpec.upto kindInstancesSpec)) kindInstancesUptoCard

/-- THE SECOND FORM's CARD OF 'sheafworkslaw08.KindNumbers'. -/
def kindNumbersUptoCard : Claim7 := { stood := { row := kindNumbersUptoRow, standIns := [], harness := (true, "ea5e89dd5a6f094bc7dfb8a7246475ba603932d0e7a761c5f638071be75f3485"), looks := true }, kinds := [], alts := [], laidByText := true, laidKinds := [.data, .data, .data, .sentinel, .sentinel], laidTests := true, laidLooks := .later }
def KindNumbersUptoCardSaid : Prop := Claim7.holds Tryz.pinned (.plain (OpenSpec.upto kindNumbersSpec)) kindNumbersUptoCard
end Rows
end Go.Proofs.YtnmolpkkemljoaaGreatDoor
