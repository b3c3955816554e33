/-
  DERIVED. GIVEN WITH THE SEED: THE CARDS: each row of YtlmmgpmioaecnaaGreatDoorRows.lean that lists a variable, with what it lists TIED to the program's text (the seventh form; the later family's looks); each row that meets fmt, with fmt's text TOLD by the authors' own Lean function (tested against real Go, not proved from fmt's source: count such statements apart). THE CARD IS WHAT COUNTS. Prove the row's statement (the work); the ties are given (YtlmmgpmioaecnaaGreatDoorTie.lean); close each card by the builder's one call (the guide's Derived/Test/ToyasCard.lean, 'card_holds'). Laid BY PROGRAM, IN A SANDBOX (cutbox-door.mjs). By AI agents, Wed Nov 11 2026. No macro, syntax, notation, axiom, sorry.
-/
import Derived.Test.YtlmmgpmioaecnaaGreatDoorRows
import GoSem.ClaimSeven
namespace Go.Proofs.YtlmmgpmioaecnaaGreatDoor
namespace Rows

/-- THE TIED CARD OF 'touchstonelaw04.PrintShows'. -/
def printShowsCard : Claim7 := { stood := { row := printShowsRow, standIns := [], harness := (true, "038708ddc034fc2e3d23c6945e6c882a2ac3d21cb4177bf525e2f4a9bfb2c2d3"), looks := true }, kinds := [], alts := [], laidByText := true, laidKinds := [.widerDeep, .widerDeep], laidTests := true, laidLooks := .later }
def PrintShowsCardSaid : Prop := Claim7.holds Tryz.pinned (.plain (OpenSpec.ofChange printShowsSpec)) printShowsCard

/-- THE TIED CARD OF 'touchstonelaw04.PrintLines'. -/
def printLinesCard : Claim7 := { stood := { row := printLinesRow, standIns := [], harness := (true, "038708ddc034fc2e3d23c6945e6c882a2ac3d21cb4177bf525e2f4a9bfb2c2d3"), looks := true }, kinds := [], alts := [], laidByText := true, laidKinds := [.widerDeep, .widerDeep], laidTests := true, laidLooks := .later }
def PrintLinesCardSaid : Prop := Claim7.holds Tryz.pinned (.plain (OpenSpec.ofChange printLinesSpec)) printLinesCard

/-- THE SECOND FORM's CARD OF 'touchstonelaw04.PrintShows'. -/
def printShowsUptoCard : Claim7 := { stood := { row := printShowsUptoRow, standIns := [], harness := (true, "038708ddc034fc2e3d23c6945e6c882a2ac3d21cb4177bf525e2f4a9bfb2c2d3"), looks := true }, kinds := [], alts := [], laidByText := true, laidKinds := [.widerDeep, .widerDeep], laidTests := true, laidLooks := .later }
def PrintShowsUptoCardSaid : Prop := Claim7.holds Tryz.pinned (.plain (OpenSpec.upto printShowsSpec)) printShowsUptoCard

/-- THE SECOND FORM's CARD OF 'touchstonelaw04.PrintLines'. -/
def printLinesUptoCard : Claim7 := { stood := { row := printLinesUptoRow, standIns := [], harness := (true, "038708ddc034fc2e3d23c6945e6c882a2ac3d21cb4177bf525e2f4a9bfb2c2d3"), looks := true }, kinds := [], alts := [], laidByText := true, laidKinds := [.widerDeep, .widerDeep], laidTests := true, laidLooks := .later }
def PrintLinesUptoCardSaid : Prop := Claim7.holds Tryz.pinned (.plain (OpenSpec.upto printLinesSpec)) printLinesUptoCard
end Rows
end Go.Proofs.YtlmmgpmioaecnaaGreatDoor
