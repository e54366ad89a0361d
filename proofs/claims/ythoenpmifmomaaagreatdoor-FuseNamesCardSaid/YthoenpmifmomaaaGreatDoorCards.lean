/-
  DERIVED. GIVEN WITH THE SEED: THE CARDS: each row of YthoenpmifmomaaaGreatDoorRows.lean that lists a variable, with what it lists TIED to the program's text (the seventh form; the later family's looks); each row that meets fmt, with fmt's text TOLD by the authors' own Lean function (tested against real Go, not proved from fmt's source: count such statements apart). THE CARD IS WHAT COUNTS. Prove the row's statement (the work); the ties are given (YthoenpmifmomaaaGreatDoorTie.lean); close each card by the builder's one call (the guide's Derived/Test/ToyasCard.lean, 'card_holds'). Laid BY PROGRAM, IN A SANDBOX (cutbox-door.mjs). By AI agents, Wed Nov 11 2026. No macro, syntax, notation, axiom, sorry.
-/
import Derived.Test.YthoenpmifmomaaaGreatDoorRows
import GoSem.ClaimSeven
namespace Go.Proofs.YthoenpmifmomaaaGreatDoor
namespace Rows

/-- THE TIED CARD OF 'sheafworkslaw19.FuseNames'. -/
def fuseNamesCard : Claim7 := { stood := { row := fuseNamesRow, standIns := [], harness := (true, "83181e60fc1b045624b8c14b0cf8a2a2edbe81a7c3c23a548d30e7c72d89c2b1"), looks := true }, kinds := [], alts := [], laidByText := true, laidKinds := [.funcs, .data, .data], laidTests := true, laidLooks := .later }
def FuseNamesCardSaid : Prop := Claim7.holds Tryz.pinned (.plain (OpenSpec.ofChange fuseNamesSpec)) fuseNamesCard

/-- THE TIED CARD OF 'sheafworkslaw22.ChunkKnown'. -/
def chunkKnownCard : Claim7 := { stood := { row := chunkKnownRow, standIns := [], harness := (true, "83181e60fc1b045624b8c14b0cf8a2a2edbe81a7c3c23a548d30e7c72d89c2b1"), looks := true }, kinds := [], alts := [], laidByText := true, laidKinds := [.funcs, .data, .data], laidTests := true, laidLooks := .later }
def ChunkKnownCardSaid : Prop := Claim7.holds Tryz.pinned (.plain (OpenSpec.ofChange chunkKnownSpec)) chunkKnownCard

/-- THE TIED CARD OF 'sheafworkslaw20.SameNames'. -/
def sameNamesCard : Claim7 := { stood := { row := sameNamesRow, standIns := [], harness := (true, "83181e60fc1b045624b8c14b0cf8a2a2edbe81a7c3c23a548d30e7c72d89c2b1"), looks := true }, kinds := [], alts := [], laidByText := true, laidKinds := [.data, .data, .data, .funcs, .data, .data], laidTests := true, laidLooks := .later }
def SameNamesCardSaid : Prop := Claim7.holds Tryz.pinned (.plain (OpenSpec.ofChange sameNamesSpec)) sameNamesCard

/-- THE TIED CARD OF 'sheafworkslaw18.ShapeNames'. -/
def shapeNamesCard : Claim7 := { stood := { row := shapeNamesRow, standIns := [], harness := (true, "83181e60fc1b045624b8c14b0cf8a2a2edbe81a7c3c23a548d30e7c72d89c2b1"), looks := true }, kinds := [], alts := [], laidByText := true, laidKinds := [.funcs, .data, .data, .data], laidTests := true, laidLooks := .later }
def ShapeNamesCardSaid : Prop := Claim7.holds Tryz.pinned (.plain (OpenSpec.ofChange shapeNamesSpec)) shapeNamesCard

/-- THE SECOND FORM's CARD OF 'sheafworkslaw19.FuseNames'. -/
def fuseNamesUptoCard : Claim7 := { stood := { row := fuseNamesUptoRow, standIns := [], harness := (true, "83181e60fc1b045624b8c14b0cf8a2a2edbe81a7c3c23a548d30e7c72d89c2b1"), looks := true }, kinds := [], alts := [], laidByText := true, laidKinds := [.funcs, .data, .data], laidTests := true, laidLooks := .later }
def FuseNamesUptoCardSaid : Prop := Claim7.holds Tryz.pinned (.plain (OpenSpec.upto fuseNamesSpec)) fuseNamesUptoCard

/-- THE SECOND FORM's CARD OF 'sheafworkslaw22.ChunkKnown'. -/
def chunkKnownUptoCard : Claim7 := { stood := { row := chunkKnownUptoRow, standIns := [], harness := (true, "83181e60fc1b045624b8c14b0cf8a2a2edbe81a7c3c23a548d30e7c72d89c2b1"), looks := true }, kinds := [], alts := [], laidByText := true, laidKinds := [.funcs, .data, .data], laidTests := true, laidLooks := .later }
def ChunkKnownUptoCardSaid : Prop := Claim7.holds Tryz.pinned (.plain (OpenSpec.upto chunkKnownSpec)) chunkKnownUptoCard

/-- THE SECOND FORM's CARD OF 'sheafworkslaw20.SameNames'. -/
def sameNamesUptoCard : Claim7 := { stood := { row := sameNamesUptoRow, standIns := [], harness := (true, "83181e60fc1b045624b8c14b0cf8a2a2edbe81a7c3c23a548d30e7c72d89c2b1"), looks := true }, kinds := [], alts := [], laidByText := true, laidKinds := [.data, .data, .data, .funcs, .data, .data], laidTests := true, laidLooks := .later }
def SameNamesUptoCardSaid : Prop := Claim7.holds Tryz.pinned (.plain (OpenSpec.upto sameNamesSpec)) sameNamesUptoCard

/-- THE SECOND FORM's CARD OF 'sheafworkslaw18.ShapeNames'. -/
def shapeNamesUptoCard : Claim7 := { stood := { row := shapeNamesUptoRow, standIns := [], harness := (true, "83181e60fc1b045624b8c14b0cf8a2a2edbe81a7c3c23a548d30e7c72d89c2b1"), looks := true }, kinds := [], alts := [], laidByText := true, laidKinds := [.funcs, .data, .data, .data], laidTests := true, laidLooks := .later }
def ShapeNamesUptoCardSaid : Prop := Claim7.holds Tryz.pinned (.plain (OpenSpec.upto shapeNamesSpec)) shapeNamesUptoCard
end Rows
end Go.Proofs.YthoenpmifmomaaaGreatDoor
