/-
  DERIVED. GIVEN WITH THE SEED: THE CARDS: each row of YtlholbhaajklhaaGreatDoorRows.lean that lists a variable, with what it lists TIED to the program's text (the seventh form; the later family's looks); each row that meets fmt, with fmt's text TOLD by the authors' own Lean function (tested against real Go, not proved from fmt's source: count such statements apart). THE CARD IS WHAT COUNTS. Prove the row's statement (the work); the ties are given (YtlholbhaajklhaaGreatDoorTie.lean); close each card by the builder's one call (the guide's Derived/Test/ToyasCard.lean, 'card_holds'). Laid BY PROGRAM, IN A SANDBOX (cutbox-door.mjs). By AI agents, Wed Nov 11 2026. No macro, syntax, notation, axiom, sorry.
-/
import Derived.Test.YtlholbhaajklhaaGreatDoorRows
import GoSem.ClaimSeven
namespace Go.Proofs.YtlholbhaajklhaaGreatDoor
namespace Rows

/-- THE TIED CARD OF 'touchstonelaw30.ReportShows'. -/
def reportShowsCard : Claim7 := { stood := { row := reportShowsRow, standIns := [], harness := (true, "83959b04a055c9c7c0cd9f22e094817a41f0a9250e1a65909c4d0cbf74f249f8"), looks := true }, kinds := [], alts := [], laidByText := true, laidKinds := [.data, .data, .data, .data, .data, .data, .data, .pinned], laidTests := true, laidLooks := .later }
def ReportShowsCardSaid : Prop := Claim7.holds Tryz.pinned (.plain (OpenSpec.ofChange reportShowsSpec)) reportShowsCard

/-- THE TIED CARD OF 'touchstonelaw30.ReportUnlike'. -/
def reportUnlikeCard : Claim7 := { stood := { row := reportUnlikeRow, standIns := [], harness := (true, "83959b04a055c9c7c0cd9f22e094817a41f0a9250e1a65909c4d0cbf74f249f8"), looks := true }, kinds := [], alts := [], laidByText := true, laidKinds := [.data, .data, .data, .data, .data, .data, .data, .pinned], laidTests := true, laidLooks := .later }
def ReportUnlikeCardSaid : Prop := Claim7.holds Tryz.pinned (.plain (OpenSpec.ofChange reportUnlikeSpec)) reportUnlikeCard

/-- THE TIED CARD OF 'touchstonelaw30.ReportAll'. -/
def reportAllCard : Claim7 := { stood := { row := reportAllRow, standIns := [], harness := (true, "83959b04a055c9c7c0cd9f22e094817a41f0a9250e1a65909c4d0cbf74f249f8"), looks := true }, kinds := [], alts := [], laidByText := true, laidKinds := [.data, .data, .data, .data, .data, .data, .data, .pinned], laidTests := true, laidLooks := .later }
def ReportAllCardSaid : Prop := Claim7.holds Tryz.pinned (.plain (OpenSpec.ofChange reportAllSpec)) reportAllCard

/-- THE TIED CARD OF 'touchstonelaw30.ReportLines'. -/
def reportLinesCard : Claim7 := { stood := { row := reportLinesRow, standIns := [], harness := (true, "83959b04a055c9c7c0cd9f22e094817a41f0a9250e1a65909c4d0cbf74f249f8"), looks := true }, kinds := [], alts := [], laidByText := true, laidKinds := [.data, .data, .data, .data, .data, .data, .data, .pinned], laidTests := true, laidLooks := .later }
def ReportLinesCardSaid : Prop := Claim7.holds Tryz.pinned (.plain (OpenSpec.ofChange reportLinesSpec)) reportLinesCard

/-- THE SECOND FORM's CARD OF 'touchstonelaw30.ReportShows'. -/
def reportShowsUptoCard : Claim7 := { stood := { row := reportShowsUptoRow, standIns := [], harness := (true, "83959b04a055c9c7c0cd9f22e094817a41f0a9250e1a65909c4d0cbf74f249f8"), looks := true }, kinds := [], alts := [], laidByText := true, laidKinds := [.data, .data, .data, .data, .data, .data, .data, .pinned], laidTests := true, laidLooks := .later }
def ReportShowsUptoCardSaid : Prop := Claim7.holds Tryz.pinned (.plain (OpenSpec.upto reportShowsSpec)) reportShowsUptoCard

/-- THE SECOND FORM's CARD OF 'touchstonelaw30.ReportUnlike'. -/
def reportUnlikeUptoCard : Claim7 := { stood := { row := reportUnlikeUptoRow, standIns := [], harness := (true, "83959b04a055c9c7c0cd9f22e094817a41f0a9250e1a65909c4d0cbf74f249f8"), looks := true }, kinds := [], alts := [], laidByText := true, laidKinds := [.data, .data, .data, .data, .data, .data, .data, .pinned], laidTests := true, laidLooks := .later }
def ReportUnlikeUptoCardSaid : Prop := Claim7.holds Tryz.pinned (.plain (OpenSpec.upto reportUnlikeSpec)) reportUnlikeUptoCard

/-- THE SECOND FORM's CARD OF 'touchstonelaw30.ReportAll'. -/
def reportAllUptoCard : Claim7 := { stood := { row := reportAllUptoRow, standIns := [], harness := (true, "83959b04a055c9c7c0cd9f22e094817a41f0a9250e1a65909c4d0cbf74f249f8"), looks := true }, kinds := [], alts := [], laidByText := true, laidKinds := [.data, .data, .data, .data, .data, .data, .data, .pinned], laidTests := true, laidLooks := .later }
def ReportAllUptoCardSaid : Prop := Claim7.holds Tryz.pinned (.plain (OpenSpec.upto reportAllSpec)) reportAllUptoCard

/-- THE SECOND FORM's CARD OF 'touchstonelaw30.ReportLines'. -/
def reportLinesUptoCard : Claim7 := { stood := { row := reportLinesUptoRow, standIns := [], harness := (true, "83959b04a055c9c7c0cd9f22e094817a41f0a9250e1a65909c4d0cbf74f249f8"), looks := true }, kinds := [], alts := [], laidByText := true, laidKinds := [.data, .data, .data, .data, .data, .data, .data, .pinned], laidTests := true, laidLooks := .later }
def ReportLinesUptoCardSaid : Prop := Claim7.holds Tryz.pinned (.plain (OpenSpec.upto reportLinesSpec)) reportLinesUptoCard
end Rows
end Go.Proofs.YtlholbhaajklhaaGreatDoor
