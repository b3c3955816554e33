/-
  DERIVED. GIVEN WITH THE SEED: THE CARDS: each row of YtphinjijaglokaaGreatDoorRows.lean that lists a variable, with what it lists TIED to the program's text (the seventh form; the later family's looks); each row that meets fmt, with fmt's text TOLD by the authors' own Lean function (tested against real Go, not proved from fmt's source: count such statements apart). THE CARD IS WHAT COUNTS. Prove the row's statement (the work); the ties are given (YtphinjijaglokaaGreatDoorTie.lean); close each card by the builder's one call (the guide's Derived/Test/ToyasCard.lean, 'card_holds'). Laid BY PROGRAM, IN A SANDBOX (cutbox-door.mjs). By AI agents, Wed Nov 11 2026. No macro, syntax, notation, axiom, sorry.
-/
import Derived.Test.YtphinjijaglokaaGreatDoorRows
import GoSem.ClaimSeven
namespace Go.Proofs.YtphinjijaglokaaGreatDoor
namespace Rows

/-- THE TIED CARD OF 'touchstonelaw08.SpellShows'. -/
def spellShowsCard : Claim7 := { stood := { row := spellShowsRow, standIns := [], harness := (true, "3cdebdcbb56f5623987d819266131f8ee1c19a9d7cefcdd6345e2504748691ac"), looks := true }, kinds := [], alts := [], laidByText := true, laidKinds := [.data, .data, .data, .data, .sentinel, .sentinel, .pinned], laidTests := true, laidLooks := .later }
def SpellShowsCardSaid : Prop := Claim7.holds Tryz.pinned (.plain (OpenSpec.ofChange spellShowsSpec)) spellShowsCard

/-- THE TIED CARD OF 'touchstonelaw08.SpellBack'. -/
def spellBackCard : Claim7 := { stood := { row := spellBackRow, standIns := [], harness := (true, "3cdebdcbb56f5623987d819266131f8ee1c19a9d7cefcdd6345e2504748691ac"), looks := true }, kinds := [], alts := [], laidByText := true, laidKinds := [.data, .data, .data, .data, .sentinel, .sentinel, .pinned], laidTests := true, laidLooks := .later }
def SpellBackCardSaid : Prop := Claim7.holds Tryz.pinned (.plain (OpenSpec.ofChange spellBackSpec)) spellBackCard

/-- THE TIED CARD OF 'touchstonelaw08.SpellLines'. -/
def spellLinesCard : Claim7 := { stood := { row := spellLinesRow, standIns := [], harness := (true, "3cdebdcbb56f5623987d819266131f8ee1c19a9d7cefcdd6345e2504748691ac"), looks := true }, kinds := [], alts := [], laidByText := true, laidKinds := [.data, .data, .data, .data, .sentinel, .sentinel, .pinned], laidTests := true, laidLooks := .later }
def SpellLinesCardSaid : Prop := Claim7.holds Tryz.pinned (.plain (OpenSpec.ofChange spellLinesSpec)) spellLinesCard

/-- THE SECOND FORM's CARD OF 'touchstonelaw08.SpellShows'. -/
def spellShowsUptoCard : Claim7 := { stood := { row := spellShowsUptoRow, standIns := [], harness := (true, "3cdebdcbb56f5623987d819266131f8ee1c19a9d7cefcdd6345e2504748691ac"), looks := true }, kinds := [], alts := [], laidByText := true, laidKinds := [.data, .data, .data, .data, .sentinel, .sentinel, .pinned], laidTests := true, laidLooks := .later }
def SpellShowsUptoCardSaid : Prop := Claim7.holds Tryz.pinned (.plain (OpenSpec.upto spellShowsSpec)) spellShowsUptoCard

/-- THE SECOND FORM's CARD OF 'touchstonelaw08.SpellBack'. -/
def spellBackUptoCard : Claim7 := { stood := { row := spellBackUptoRow, standIns := [], harness := (true, "3cdebdcbb56f5623987d819266131f8ee1c19a9d7cefcdd6345e2504748691ac"), looks := true }, kinds := [], alts := [], laidByText := true, laidKinds := [.data, .data, .data, .data, .sentinel, .sentinel, .pinned], laidTests := true, laidLooks := .later }
def SpellBackUptoCardSaid : Prop := Claim7.holds Tryz.pinned (.plain (OpenSpec.upto spellBackSpec)) spellBackUptoCard

/-- THE SECOND FORM's CARD OF 'touchstonelaw08.SpellLines'. -/
def spellLinesUptoCard : Claim7 := { stood := { row := spellLinesUptoRow, standIns := [], harness := (true, "3cdebdcbb56f5623987d819266131f8ee1c19a9d7cefcdd6345e2504748691ac"), looks := true }, kinds := [], alts := [], laidByText := true, laidKinds := [.data, .data, .data, .data, .sentinel, .sentinel, .pinned], laidTests := true, laidLooks := .later }
def SpellLinesUptoCardSaid : Prop := Claim7.holds Tryz.pinned (.plain (OpenSpec.upto spellLinesSpec)) spellLinesUptoCard
end Rows
end Go.Proofs.YtphinjijaglokaaGreatDoor
