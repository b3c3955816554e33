/-
  DERIVED. GIVEN WITH THE SEED: THE CARDS: each row of YtebpgpdcchmfjaaGreatDoorRows.lean that lists a variable, with what it lists TIED to the program's text (the seventh form; the later family's looks); each row that meets fmt, with fmt's text TOLD by the authors' own Lean function (tested against real Go, not proved from fmt's source: count such statements apart). THE CARD IS WHAT COUNTS. Prove the row's statement (the work); the ties are given (YtebpgpdcchmfjaaGreatDoorTie.lean); close each card by the builder's one call (the guide's Derived/Test/ToyasCard.lean, 'card_holds'). Laid BY PROGRAM, IN A SANDBOX (cutbox-door.mjs). By AI agents, Wed Nov 11 2026. No macro, syntax, notation, axiom, sorry.
-/
import Derived.Test.YtebpgpdcchmfjaaGreatDoorRows
import GoSem.ClaimSeven
namespace Go.Proofs.YtebpgpdcchmfjaaGreatDoor
namespace Rows

/-- THE TIED CARD OF 'touchstonelaw08.SpellNames'. -/
def spellNamesCard : Claim7 := { stood := { row := spellNamesRow, standIns := [], harness := (true, "c68e3d6ee0052b88d03d92b03754b896f2d70ea926b52dd23fd3378a5ebaf6dd"), looks := true }, kinds := [], alts := [], laidByText := true, laidKinds := [.data, .data, .data, .data, .sentinel, .sentinel, .pinned], laidTests := true, laidLooks := .later }
def SpellNamesCardSaid : Prop := Claim7.holds Tryz.pinned (.plain (OpenSpec.ofChange spellNamesSpec)) spellNamesCard

/-- THE SECOND FORM's CARD OF 'touchstonelaw08.SpellNames'. -/
def spellNamesUptoCard : Claim7 := { stood := { row := spellNamesUptoRow, standIns := [], harness := (true, "c68e3d6ee0052b88d03d92b03754b896f2d70ea926b52dd23fd3378a5ebaf6dd"), looks := true }, kinds := [], alts := [], laidByText := true, laidKinds := [.data, .data, .data, .data, .sentinel, .sentinel, .pinned], laidTests := true, laidLooks := .later }
def SpellNamesUptoCardSaid : Prop := Claim7.holds Tryz.pinned (.plain (OpenSpec.upto spellNamesSpec)) spellNamesUptoCard
end Rows
end Go.Proofs.YtebpgpdcchmfjaaGreatDoor
