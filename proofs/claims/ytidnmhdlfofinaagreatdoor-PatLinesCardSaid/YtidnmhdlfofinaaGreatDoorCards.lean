/-
  DERIVED. GIVEN WITH THE SEED: THE CARDS: each row of YtidnmhdlfofinaaGreatDoorRows.lean that lists a variable, with what it lists TIED to the program's text (the seventh form; the later family's looks); each row that meets fmt, with fmt's text TOLD by the authors' own Lean function (tested against real Go, not proved from fmt's source: count such statements apart). THE CARD IS WHAT COUNTS. Prove the row's statement (the work); the ties are given (YtidnmhdlfofinaaGreatDoorTie.lean); close each card by the builder's one call (the guide's Derived/Test/ToyasCard.lean, 'card_holds'). Laid BY PROGRAM, IN A SANDBOX (cutbox-door.mjs). By AI agents, Wed Nov 11 2026. No macro, syntax, notation, axiom, sorry.
-/
import Derived.Test.YtidnmhdlfofinaaGreatDoorRows
import GoSem.ClaimSeven
namespace Go.Proofs.YtidnmhdlfofinaaGreatDoor
namespace Rows

/-- THE TIED CARD OF 'touchstonelaw20.PatPlaces'. -/
def patPlacesCard : Claim7 := { stood := { row := patPlacesRow, standIns := [], harness := (true, "f315a93aa38216490695634eeb5aaeb3dd61654a8ae130de35fc04a9afa9e474"), looks := true }, kinds := [], alts := [], laidByText := true, laidKinds := [.data, .data, .data, .data], laidTests := true, laidLooks := .later }
def PatPlacesCardSaid : Prop := Claim7.holds Tryz.pinned (.plain (OpenSpec.ofChange patPlacesSpec)) patPlacesCard

/-- THE TIED CARD OF 'touchstonelaw20.PatFacts'. -/
def patFactsCard : Claim7 := { stood := { row := patFactsRow, standIns := [], harness := (true, "f315a93aa38216490695634eeb5aaeb3dd61654a8ae130de35fc04a9afa9e474"), looks := true }, kinds := [], alts := [], laidByText := true, laidKinds := [.data, .data, .data, .data], laidTests := true, laidLooks := .later }
def PatFactsCardSaid : Prop := Claim7.holds Tryz.pinned (.plain (OpenSpec.ofChange patFactsSpec)) patFactsCard

/-- THE TIED CARD OF 'touchstonelaw20.PatNames'. -/
def patNamesCard : Claim7 := { stood := { row := patNamesRow, standIns := [], harness := (true, "f315a93aa38216490695634eeb5aaeb3dd61654a8ae130de35fc04a9afa9e474"), looks := true }, kinds := [], alts := [], laidByText := true, laidKinds := [.data, .data, .data, .data], laidTests := true, laidLooks := .later }
def PatNamesCardSaid : Prop := Claim7.holds Tryz.pinned (.plain (OpenSpec.ofChange patNamesSpec)) patNamesCard

/-- THE TIED CARD OF 'touchstonelaw20.PatLines'. -/
def patLinesCard : Claim7 := { stood := { row := patLinesRow, standIns := [], harness := (true, "f315a93aa38216490695634eeb5aaeb3dd61654a8ae130de35fc04a9afa9e474"), looks := true }, kinds := [], alts := [], laidByText := true, laidKinds := [.data, .data, .data, .data], laidTests := true, laidLooks := .later }
def PatLinesCardSaid : Prop := Claim7.holds Tryz.pinned (.plain (OpenSpec.ofChange patLinesSpec)) patLinesCard

/-- THE SECOND FORM's CARD OF 'touchstonelaw20.PatPlaces'. -/
def patPlacesUptoCard : Claim7 := { stood := { row := patPlacesUptoRow, standIns := [], harness := (true, "f315a93aa38216490695634eeb5aaeb3dd61654a8ae130de35fc04a9afa9e474"), looks := true }, kinds := [], alts := [], laidByText := true, laidKinds := [.data, .data, .data, .data], laidTests := true, laidLooks := .later }
def PatPlacesUptoCardSaid : Prop := Claim7.holds Tryz.pinned (.plain (OpenSpec.upto patPlacesSpec)) patPlacesUptoCard

/-- THE SECOND FORM's CARD OF 'touchstonelaw20.PatFacts'. -/
def patFactsUptoCard : Claim7 := { stood := { row := patFactsUptoRow, standIns := [], harness := (true, "f315a93aa38216490695634eeb5aaeb3dd61654a8ae130de35fc04a9afa9e474"), looks := true }, kinds := [], alts := [], laidByText := true, laidKinds := [.data, .data, .data, .data], laidTests := true, laidLooks := .later }
def PatFactsUptoCardSaid : Prop := Claim7.holds Tryz.pinned (.plain (OpenSpec.upto patFactsSpec)) patFactsUptoCard

/-- THE SECOND FORM's CARD OF 'touchstonelaw20.PatNames'. -/
def patNamesUptoCard : Claim7 := { stood := { row := patNamesUptoRow, standIns := [], harness := (true, "f315a93aa38216490695634eeb5aaeb3dd61654a8ae130de35fc04a9afa9e474"), looks := true }, kinds := [], alts := [], laidByText := true, laidKinds := [.data, .data, .data, .data], laidTests := true, laidLooks := .later }
def PatNamesUptoCardSaid : Prop := Claim7.holds Tryz.pinned (.plain (OpenSpec.upto patNamesSpec)) patNamesUptoCard

/-- THE SECOND FORM's CARD OF 'touchstonelaw20.PatLines'. -/
def patLinesUptoCard : Claim7 := { stood := { row := patLinesUptoRow, standIns := [], harness := (true, "f315a93aa38216490695634eeb5aaeb3dd61654a8ae130de35fc04a9afa9e474"), looks := true }, kinds := [], alts := [], laidByText := true, laidKinds := [.data, .data, .data, .data], laidTests := true, laidLooks := .later }
def PatLinesUptoCardSaid : Prop := Claim7.holds Tryz.pinned (.plain (OpenSpec.upto patLinesSpec)) patLinesUptoCard
end Rows
end Go.Proofs.YtidnmhdlfofinaaGreatDoor
