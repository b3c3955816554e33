/-
  NARROWER THAN 'FOR EVERY INPUT', by the rows' own cells (each row's printed sentence says how): LexNames: laid · LexTokens: laid · LexCovers: laid · LexTwo: laid.
  DERIVED. THE GIVEN ROWS OF THIS SEAT. 4 by the template 'for every input the law returns true; each argument reads behind the call as it read before'; 0 by the template 'total and deterministic' (their statements: YtedkiipdgffoaaaDoorTotals.lean).
  GIVEN WITH THE SEED: the statements are not yours to turn. If you find one false, say at which input.
  Laid BY PROGRAM, IN A SANDBOX (cutbox-rows.mjs): the forced cells as the released guide's own fill.sh prints them over the translation 7d4253076c17510d… (all of the seat's roots in one cut). By AI agents, Wed Nov 11 2026. No macro, syntax, notation, axiom, sorry.
-/
import Derived.Test.YtedkiipdgffoaaaDoorChecked
import GoSem.Claim
import GoSem.ClaimJoined
import GoSem.ClaimMapViews
import Derived.JoinedTies
import Derived.KernelRfl
namespace Go.Proofs.YtedkiipdgffoaaaDoor
/- THE CELL 'sum', in the pinned program and in every row, IS THE sha256 OF THE DUMP (.gsa) THAT YtedkiipdgffoaaaDoorProg.lean LOADS. Nothing in Lean hashes anything: it is a label: what it is worth is what the hold of that sum in a sandbox is worth. -/
noncomputable def Tryd.pinned : Pinned := { name := "ytedkiipdgffoaaadoor", sum := "7d4253076c17510d107031edd4e2c88fbbdc0a481a0cd61032868376c5879030", checked := Tryd.checked }
namespace Rows
def none {H : Type} : Left H := { results := [], args := [] }

/- WHAT THE LISTED PACKAGE-LEVEL VARIABLES READ AS WHEN THE CALL BEGINS. Each datum BY PROGRAM (the guide's laid-datum.mjs) off the statement by which the dump's own 'gosem.cut.vars' lays the variable. In a bare row this is a premise. The card (YtedkiipdgffoaaaDoorCards.lean) ties it to the program's text. -/
def laid_touchstone_lex_operators {H : Type} : DataW H := .agg [.lit (.string [38, 38]), .lit (.string [124, 124]), .lit (.string [59, 59]), .lit (.string [60, 60]), .lit (.string [62, 62]), .lit (.string [59]), .lit (.string [38]), .lit (.string [124]), .lit (.string [60]), .lit (.string [62]), .lit (.string [40]), .lit (.string [41])]

/-- 'touchstonelaw01.LexNames': WHATEVER THE INPUT: true; the input reads as it did. -/
def lexNamesSpec : ChangeSpec := { name := "lexNames", fn := fun _ => fun
  | [] => { results := [.lit (.bool true)], args := [] }
  | _ => none }
def lexNamesRow : OpenClaim := { program := "ytedkiipdgffoaaadoor", sum := "7d4253076c17510d107031edd4e2c88fbbdc0a481a0cd61032868376c5879030", func := "touchstone/touchstonelaw01.LexNames", spec := "lexNames", inPlace := ["internal/bytealg.IndexByteString"], unfollowed := true, recurses := true, named := ["touchstone/lex.operators"], apart := false, laid := [("touchstone/lex.operators", laid_touchstone_lex_operators)] }
def LexNamesSaid : Prop := lexNamesRow.holds Tryd.pinned (OpenSpec.ofChange lexNamesSpec)

/-- ITS FALSE NEIGHBOUR: 'it returns false'. Refute it at one input. -/
def lexNamesWrong : ChangeSpec := { name := "lexNames", fn := fun _ => fun
  | [] => { results := [.lit (.bool false)], args := [] }
  | _ => none }
def LexNamesWrongFalsely : Prop := lexNamesRow.holds Tryd.pinned (OpenSpec.ofChange lexNamesWrong)

/-- 'touchstonelaw01.LexTokens': WHATEVER THE INPUT: true; the input reads as it did. -/
def lexTokensSpec : ChangeSpec := { name := "lexTokens", fn := fun _ => fun
  | [d] => { results := [.lit (.bool true)], args := [d] }
  | _ => none }
def lexTokensRow : OpenClaim := { program := "ytedkiipdgffoaaadoor", sum := "7d4253076c17510d107031edd4e2c88fbbdc0a481a0cd61032868376c5879030", func := "touchstone/touchstonelaw01.LexTokens", spec := "lexTokens", inPlace := ["internal/bytealg.IndexByteString"], unfollowed := true, recurses := true, named := ["touchstone/lex.operators"], apart := false, laid := [("touchstone/lex.operators", laid_touchstone_lex_operators)] }
def LexTokensSaid : Prop := lexTokensRow.holds Tryd.pinned (OpenSpec.ofChange lexTokensSpec)

/-- ITS FALSE NEIGHBOUR: 'it returns false'. Refute it at one input. -/
def lexTokensWrong : ChangeSpec := { name := "lexTokens", fn := fun _ => fun
  | [d] => { results := [.lit (.bool false)], args := [d] }
  | _ => none }
def LexTokensWrongFalsely : Prop := lexTokensRow.holds Tryd.pinned (OpenSpec.ofChange lexTokensWrong)

/-- 'touchstonelaw01.LexCovers': WHATEVER THE INPUT: true; the input reads as it did. -/
def lexCoversSpec : ChangeSpec := { name := "lexCovers", fn := fun _ => fun
  | [d] => { results := [.lit (.bool true)], args := [d] }
  | _ => none }
def lexCoversRow : OpenClaim := { program := "ytedkiipdgffoaaadoor", sum := "7d4253076c17510d107031edd4e2c88fbbdc0a481a0cd61032868376c5879030", func := "touchstone/touchstonelaw01.LexCovers", spec := "lexCovers", inPlace := ["internal/bytealg.IndexByteString"], unfollowed := true, recurses := true, named := ["touchstone/lex.operators"], apart := false, laid := [("touchstone/lex.operators", laid_touchstone_lex_operators)] }
def LexCoversSaid : Prop := lexCoversRow.holds Tryd.pinned (OpenSpec.ofChange lexCoversSpec)

/-- ITS FALSE NEIGHBOUR: 'it returns false'. Refute it at one input. -/
def lexCoversWrong : ChangeSpec := { name := "lexCovers", fn := fun _ => fun
  | [d] => { results := [.lit (.bool false)], args := [d] }
  | _ => none }
def LexCoversWrongFalsely : Prop := lexCoversRow.holds Tryd.pinned (OpenSpec.ofChange lexCoversWrong)

/-- 'touchstonelaw01.LexTwo': WHATEVER THE INPUT: true; the input reads as it did. -/
def lexTwoSpec : ChangeSpec := { name := "lexTwo", fn := fun _ => fun
  | [d1, d2] => { results := [.lit (.bool true)], args := [d1, d2] }
  | _ => none }
def lexTwoRow : OpenClaim := { program := "ytedkiipdgffoaaadoor", sum := "7d4253076c17510d107031edd4e2c88fbbdc0a481a0cd61032868376c5879030", func := "touchstone/touchstonelaw01.LexTwo", spec := "lexTwo", inPlace := ["internal/bytealg.IndexByteString"], unfollowed := true, recurses := true, named := ["touchstone/lex.operators"], apart := false, laid := [("touchstone/lex.operators", laid_touchstone_lex_operators)] }
def LexTwoSaid : Prop := lexTwoRow.holds Tryd.pinned (OpenSpec.ofChange lexTwoSpec)

/-- ITS FALSE NEIGHBOUR: 'it returns false'. Refute it at one input. -/
def lexTwoWrong : ChangeSpec := { name := "lexTwo", fn := fun _ => fun
  | [d1, d2] => { results := [.lit (.bool false)], args := [d1, d2] }
  | _ => none }
def LexTwoWrongFalsely : Prop := lexTwoRow.holds Tryd.pinned (OpenSpec.ofChange lexTwoWrong)

/- THE SECOND FORM. 'bulk': how many values and letters a reading holds, each counted each time it is reached (what is shared counts as often as it is met; a slice's spare places count too). A statement '..UptoSaid' is the law's where the arguments, and the package variables that the reading takes, are together of bulk at most 1048576: NARROWER than '..Said'. Prove '..Said' where nothing that the law and all that it calls make is longer than what came in: it says more and counts as full. Else prove '..UptoSaid'. A law counts once. -/
mutual
def uptoBulk {H : Type} : DataW H → Nat
  | .lit (.string bytes) => bytes.length + 1
  | .lit _ => 1
  | .nil => 1
  | .ptr d => uptoBulk d + 1
  | .slice elems spare => uptoBulkAll elems + uptoBulkAll spare + 1
  | .agg parts => uptoBulkAll parts + 1
  | .iface _ d => uptoBulk d + 1
  | .map entries => uptoBulkEntries entries + 1
  | .held _ => 1
def uptoBulkAll {H : Type} : List (DataW H) → Nat
  | [] => 0
  | d :: r => uptoBulk d + uptoBulkAll r
def uptoBulkEntries {H : Type} : List (Lit × DataW H) → Nat
  | [] => 0
  | x :: r => uptoBulkEntry x + uptoBulkEntries r
def uptoBulkEntry {H : Type} : Lit × DataW H → Nat
  | (.string bytes, d) => bytes.length + uptoBulk d + 1
  | (_, d) => uptoBulk d + 1
 end
def uptoSmall : (H : Type) → List (DataW H) → Bool := fun _ ds => decide (uptoBulkAll ds ≤ 1048576)
def OpenSpec.upto (s : _root_.Go.ChangeSpec) : _root_.Go.OpenSpec := { _root_.Go.OpenSpec.ofChange s with cond := some uptoSmall }

/-- 'touchstonelaw01.LexNames', WHERE WHAT IT READS IS OF BULK AT MOST 1048576: true; the input reads as it did. -/
def lexNamesUptoRow : OpenClaim := { program := "ytedkiipdgffoaaadoor", sum := "7d4253076c17510d107031edd4e2c88fbbdc0a481a0cd61032868376c5879030", func := "touchstone/touchstonelaw01.LexNames", spec := "lexNames", inPlace := ["internal/bytealg.IndexByteString"], unfollowed := true, recurses := true, named := ["touchstone/lex.operators"], apart := false, laid := [("touchstone/lex.operators", laid_touchstone_lex_operators)], narrowed := true }
def LexNamesUptoSaid : Prop := lexNamesUptoRow.holds Tryd.pinned (OpenSpec.upto lexNamesSpec)

/-- 'touchstonelaw01.LexTokens', WHERE WHAT IT READS IS OF BULK AT MOST 1048576: true; the input reads as it did. -/
def lexTokensUptoRow : OpenClaim := { program := "ytedkiipdgffoaaadoor", sum := "7d4253076c17510d107031edd4e2c88fbbdc0a481a0cd61032868376c5879030", func := "touchstone/touchstonelaw01.LexTokens", spec := "lexTokens", inPlace := ["internal/bytealg.IndexByteString"], unfollowed := true, recurses := true, named := ["touchstone/lex.operators"], apart := false, laid := [("touchstone/lex.operators", laid_touchstone_lex_operators)], narrowed := true }
def LexTokensUptoSaid : Prop := lexTokensUptoRow.holds Tryd.pinned (OpenSpec.upto lexTokensSpec)

/-- 'touchstonelaw01.LexCovers', WHERE WHAT IT READS IS OF BULK AT MOST 1048576: true; the input reads as it did. -/
def lexCoversUptoRow : OpenClaim := { program := "ytedkiipdgffoaaadoor", sum := "7d4253076c17510d107031edd4e2c88fbbdc0a481a0cd61032868376c5879030", func := "touchstone/touchstonelaw01.LexCovers", spec := "lexCovers", inPlace := ["internal/bytealg.IndexByteString"], unfollowed := true, recurses := true, named := ["touchstone/lex.operators"], apart := false, laid := [("touchstone/lex.operators", laid_touchstone_lex_operators)], narrowed := true }
def LexCoversUptoSaid : Prop := lexCoversUptoRow.holds Tryd.pinned (OpenSpec.upto lexCoversSpec)

/-- 'touchstonelaw01.LexTwo', WHERE WHAT IT READS IS OF BULK AT MOST 1048576: true; the input reads as it did. -/
def lexTwoUptoRow : OpenClaim := { program := "ytedkiipdgffoaaadoor", sum := "7d4253076c17510d107031edd4e2c88fbbdc0a481a0cd61032868376c5879030", func := "touchstone/touchstonelaw01.LexTwo", spec := "lexTwo", inPlace := ["internal/bytealg.IndexByteString"], unfollowed := true, recurses := true, named := ["touchstone/lex.operators"], apart := false, laid := [("touchstone/lex.operators", laid_touchstone_lex_operators)], narrowed := true }
def LexTwoUptoSaid : Prop := lexTwoUptoRow.holds Tryd.pinned (OpenSpec.upto lexTwoSpec)

end Rows
end Go.Proofs.YtedkiipdgffoaaaDoor
