/-
  No cell of these rows narrows 'for every input' (looked for: loops, veiled, ifaces, maps, wideKeys, modest, calm, conditions, laid).
  DERIVED. THE GIVEN ROWS OF THIS SEAT. 3 by the template 'for every input the law returns true; each argument reads behind the call as it read before'; 0 by the template 'total and deterministic' (their statements: YtajfpccgknoafaaTotals.lean).
  GIVEN WITH THE SEED: the statements are not yours to turn. If you find one false, say at which input.
  Laid BY PROGRAM, IN A SANDBOX (cutbox-rows.mjs): the forced cells as the released guide's own fill.sh prints them over the translation 49bdd9b65f56a25f… (all of the seat's roots in one cut). By AI agents, Wed Nov 11 2026. No macro, syntax, notation, axiom, sorry.
-/
import Derived.Test.YtajfpccgknoafaaChecked
import GoSem.Claim
import GoSem.ClaimJoined
import GoSem.ClaimMapViews
import Derived.JoinedTies
import Derived.KernelRfl
namespace Go.Proofs.Ytajfpccgknoafaa
/- THE CELL 'sum', in the pinned program and in every row, IS THE sha256 OF THE DUMP (.gsa) THAT YtajfpccgknoafaaProg.lean LOADS. Nothing in Lean hashes anything: it is a label: what it is worth is what the hold of that sum in a sandbox is worth. -/
noncomputable def Try.pinned : Pinned := { name := "ytajfpccgknoafaa", sum := "49bdd9b65f56a25f167d34aff5af79ec9fc8a96f4f2c96b6f75ac854c0f7db47", checked := Try.checked }
namespace Rows
def none {H : Type} : Left H := { results := [], args := [] }

/-- 'touchstonelaw11.OptsRows': WHATEVER THE INPUT: true; the input reads as it did. -/
def optsRowsSpec : ChangeSpec := { name := "optsRows", fn := fun _ => fun
  | [d1, d2, d3] => { results := [.lit (.bool true)], args := [d1, d2, d3] }
  | _ => none }
def optsRowsRow : OpenClaim := { program := "ytajfpccgknoafaa", sum := "49bdd9b65f56a25f167d34aff5af79ec9fc8a96f4f2c96b6f75ac854c0f7db47", func := "touchstone/touchstonelaw11.OptsRows", spec := "optsRows", inPlace := ["internal/bytealg.IndexByteString"], apart := false }
def OptsRowsSaid : Prop := optsRowsRow.holds Try.pinned (OpenSpec.ofChange optsRowsSpec)

/-- ITS FALSE NEIGHBOUR: 'it returns false'. Refute it at one input. -/
def optsRowsWrong : ChangeSpec := { name := "optsRows", fn := fun _ => fun
  | [d1, d2, d3] => { results := [.lit (.bool false)], args := [d1, d2, d3] }
  | _ => none }
def OptsRowsWrongFalsely : Prop := optsRowsRow.holds Try.pinned (OpenSpec.ofChange optsRowsWrong)

/-- 'touchstonelaw11.OptsNames': WHATEVER THE INPUT: true; the input reads as it did. -/
def optsNamesSpec : ChangeSpec := { name := "optsNames", fn := fun _ => fun
  | [] => { results := [.lit (.bool true)], args := [] }
  | _ => none }
def optsNamesRow : OpenClaim := { program := "ytajfpccgknoafaa", sum := "49bdd9b65f56a25f167d34aff5af79ec9fc8a96f4f2c96b6f75ac854c0f7db47", func := "touchstone/touchstonelaw11.OptsNames", spec := "optsNames", inPlace := ["internal/bytealg.IndexByteString"], apart := false }
def OptsNamesSaid : Prop := optsNamesRow.holds Try.pinned (OpenSpec.ofChange optsNamesSpec)

/-- ITS FALSE NEIGHBOUR: 'it returns false'. Refute it at one input. -/
def optsNamesWrong : ChangeSpec := { name := "optsNames", fn := fun _ => fun
  | [] => { results := [.lit (.bool false)], args := [] }
  | _ => none }
def OptsNamesWrongFalsely : Prop := optsNamesRow.holds Try.pinned (OpenSpec.ofChange optsNamesWrong)

/-- 'touchstonelaw11.OptsCut': WHATEVER THE INPUT: true; the input reads as it did. -/
def optsCutSpec : ChangeSpec := { name := "optsCut", fn := fun _ => fun
  | [d1, d2, d3, d4] => { results := [.lit (.bool true)], args := [d1, d2, d3, d4] }
  | _ => none }
def optsCutRow : OpenClaim := { program := "ytajfpccgknoafaa", sum := "49bdd9b65f56a25f167d34aff5af79ec9fc8a96f4f2c96b6f75ac854c0f7db47", func := "touchstone/touchstonelaw11.OptsCut", spec := "optsCut", inPlace := ["internal/bytealg.IndexByteString"], apart := false }
def OptsCutSaid : Prop := optsCutRow.holds Try.pinned (OpenSpec.ofChange optsCutSpec)

/-- ITS FALSE NEIGHBOUR: 'it returns false'. Refute it at one input. -/
def optsCutWrong : ChangeSpec := { name := "optsCut", fn := fun _ => fun
  | [d1, d2, d3, d4] => { results := [.lit (.bool false)], args := [d1, d2, d3, d4] }
  | _ => none }
def OptsCutWrongFalsely : Prop := optsCutRow.holds Try.pinned (OpenSpec.ofChange optsCutWrong)

/- THE SECOND FORM. 'bulk': how many values and letters a reading holds, each counted each time it is reached (what is shared counts as often as it is met; a slice's spare places count too). A statement '..UptoSaid' is the law's where the arguments, and the package variables that the reading takes, are together of bulk at most 1048576: NARROWER than '..Said'. Prove '..Said' where nothing that the law and all that it calls make is longer than what came in: it says more and counts as full. Else prove '..UptoSaid'. A law counts once. -/
mutual
def uptoBulk {H : Type} : DataW H → Nat
  | .lit (.string bytes) => bytes.length + 1
  | .lit _ => 1
  | .nil => 1
  | .ptr d => uptoBulk d + 1
  | .slice elems spare => uptoBulkAll elems + uptoBulkAll spare + 1
  | .agg parts => uptoBulkAll parts + 1
  | .iface _ d => uptoBulk d + 1
  | .map entries => uptoBulkEntries entries + 1
  | .held _ => 1
def uptoBulkAll {H : Type} : List (DataW H) → Nat
  | [] => 0
  | d :: r => uptoBulk d + uptoBulkAll r
def uptoBulkEntries {H : Type} : List (Lit × DataW H) → Nat
  | [] => 0
  | x :: r => uptoBulkEntry x + uptoBulkEntries r
def uptoBulkEntry {H : Type} : Lit × DataW H → Nat
  | (.string bytes, d) => bytes.length + uptoBulk d + 1
  | (_, d) => uptoBulk d + 1
 end
def uptoSmall : (H : Type) → List (DataW H) → Bool := fun _ ds => decide (uptoBulkAll ds ≤ 1048576)
def OpenSpec.upto (s : _root_.Go.ChangeSpec) : _root_.Go.OpenSpec := { _root_.Go.OpenSpec.ofChange s with cond := some uptoSmall }

/-- 'touchstonelaw11.OptsRows', WHERE WHAT IT READS IS OF BULK AT MOST 1048576: true; the input reads as it did. -/
def optsRowsUptoRow : OpenClaim := { program := "ytajfpccgknoafaa", sum := "49bdd9b65f56a25f167d34aff5af79ec9fc8a96f4f2c96b6f75ac854c0f7db47", func := "touchstone/touchstonelaw11.OptsRows", spec := "optsRows", inPlace := ["internal/bytealg.IndexByteString"], apart := false, narrowed := true }
def OptsRowsUptoSaid : Prop := optsRowsUptoRow.holds Try.pinned (OpenSpec.upto optsRowsSpec)

/-- 'touchstonelaw11.OptsNames', WHERE WHAT IT READS IS OF BULK AT MOST 1048576: true; the input reads as it did. -/
def optsNamesUptoRow : OpenClaim := { program := "ytajfpccgknoafaa", sum := "49bdd9b65f56a25f167d34aff5af79ec9fc8a96f4f2c96b6f75ac854c0f7db47", func := "touchstone/touchstonelaw11.OptsNames", spec := "optsNames", inPlace := ["internal/bytealg.IndexByteString"], apart := false, narrowed := true }
def OptsNamesUptoSaid : Prop := optsNamesUptoRow.holds Try.pinned (OpenSpec.upto optsNamesSpec)

/-- 'touchstonelaw11.OptsCut', WHERE WHAT IT READS IS OF BULK AT MOST 1048576: true; the input reads as it did. -/
def optsCutUptoRow : OpenClaim := { program := "ytajfpccgknoafaa", sum := "49bdd9b65f56a25f167d34aff5af79ec9fc8a96f4f2c96b6f75ac854c0f7db47", func := "touchstone/touchstonelaw11.OptsCut", spec := "optsCut", inPlace := ["internal/bytealg.IndexByteString"], apart := false, narrowed := true }
def OptsCutUptoSaid : Prop := optsCutUptoRow.holds Try.pinned (OpenSpec.upto optsCutSpec)

end Rows
end Go.Proofs.Ytajfpccgknoafaa
