/-
  NARROWER THAN 'FOR EVERY INPUT', by the rows' own cells (each row's printed sentence says how): PrintShows: loops, laid · PrintLines: loops, laid.
  DERIVED. THE GIVEN ROWS OF THIS SEAT. 2 by the template 'for every input the law returns true; each argument reads behind the call as it read before'; 0 by the template 'total and deterministic' (their statements: YtlmmgpmioaecnaaGreatDoorTotals.lean).
  GIVEN WITH THE SEED: the statements are not yours to turn. If you find one false, say at which input.
  Laid BY PROGRAM, IN A SANDBOX (cutbox-rows.mjs): the forced cells as the released guide's own fill.sh prints them over the translation c48d95ea45e00d37… (all of the seat's roots in one cut). By AI agents, Wed Nov 11 2026. No macro, syntax, notation, axiom, sorry.
-/
import Derived.Test.YtlmmgpmioaecnaaGreatDoorChecked
import GoSem.Claim
import GoSem.ClaimJoined
import GoSem.ClaimMapViews
import Derived.JoinedTies
import Derived.KernelRfl
namespace Go.Proofs.YtlmmgpmioaecnaaGreatDoor
/- THE CELL 'sum', in the pinned program and in every row, IS THE sha256 OF THE DUMP (.gsa) THAT YtlmmgpmioaecnaaGreatDoorProg.lean LOADS. Nothing in Lean hashes anything: it is a label: what it is worth is what the hold of that sum in a sandbox is worth. -/
noncomputable def Tryz.pinned : Pinned := { name := "ytlmmgpmioaecnaagreatdoor", sum := "c48d95ea45e00d375be47bfdab885357c2d3c228d64c7dfc94a24e6c6aa7b9c1", checked := Tryz.checked }
namespace Rows
def none {H : Type} : Left H := { results := [], args := [] }

/- WHAT THE LISTED PACKAGE-LEVEL VARIABLES READ AS WHEN THE CALL BEGINS. Each datum BY PROGRAM (the guide's laid-datum.mjs) off the statement by which the dump's own 'gosem.cut.vars' lays the variable. In a bare row this is a premise. The card (YtlmmgpmioaecnaaGreatDoorCards.lean) ties it to the program's text. -/
def laid_touchstone_lex_operators {H : Type} : DataW H := .agg [.lit (.string [38, 38]), .lit (.string [124, 124]), .lit (.string [59, 59]), .lit (.string [60, 60]), .lit (.string [62, 62]), .lit (.string [59]), .lit (.string [38]), .lit (.string [124]), .lit (.string [60]), .lit (.string [62]), .lit (.string [40]), .lit (.string [41])]
def laid_touchstone_syntax_closes {H : Type} : DataW H := .agg [.lit (.string [116, 104, 101, 110]), .lit (.string [101, 108, 105, 102]), .lit (.string [101, 108, 115, 101]), .lit (.string [102, 105]), .lit (.string [100, 111]), .lit (.string [100, 111, 110, 101]), .lit (.string [125])]

/-- 'touchstonelaw04.PrintShows': WHATEVER THE INPUT: true; the input reads as it did. -/
def printShowsSpec : ChangeSpec := { name := "printShows", fn := fun _ => fun
  | [d] => { results := [.lit (.bool true)], args := [d] }
  | _ => none }
def printShowsRow : OpenClaim := { program := "ytlmmgpmioaecnaagreatdoor", sum := "c48d95ea45e00d375be47bfdab885357c2d3c228d64c7dfc94a24e6c6aa7b9c1", func := "touchstone/touchstonelaw04.PrintShows", spec := "printShows", inPlace := ["internal/bytealg.IndexByteString", "internal/bytealg.IndexString", "internal/abi.NoEscape", "internal/bytealg.MakeNoZero", "sync/atomic.LoadUint32", "(*internal/sync.Mutex).Lock", "internal/race.Disable", "sync/atomic.CompareAndSwapInt32", "internal/race.Enable", "internal/race.Acquire", "(*internal/sync.Mutex).lockSlow", "internal/sync.runtime_canSpin", "internal/sync.runtime_doSpin", "internal/sync.throw", "internal/sync.runtime_nanotime", "internal/sync.runtime_SemacquireMutex", "sync/atomic.AddInt32", "(*internal/sync.Mutex).Unlock", "internal/race.ReleaseMerge", "(*internal/sync.Mutex).unlockSlow", "internal/sync.fatal", "internal/sync.runtime_Semrelease", "sync/atomic.StoreUint32"], unfollowed := true, recurses := true, named := ["touchstone/lex.operators", "internal/bytealg.MaxLen", "touchstone/syntax.closes"], loops := true, apart := false, laid := [("touchstone/lex.operators", laid_touchstone_lex_operators), ("touchstone/syntax.closes", laid_touchstone_syntax_closes)] }
def PrintShowsSaid : Prop := printShowsRow.holds Tryz.pinned (OpenSpec.ofChange printShowsSpec)

/-- ITS FALSE NEIGHBOUR: 'it returns false'. Refute it at one input. -/
def printShowsWrong : ChangeSpec := { name := "printShows", fn := fun _ => fun
  | [d] => { results := [.lit (.bool false)], args := [d] }
  | _ => none }
def PrintShowsWrongFalsely : Prop := printShowsRow.holds Tryz.pinned (OpenSpec.ofChange printShowsWrong)

/-- 'touchstonelaw04.PrintLines': WHATEVER THE INPUT: true; the input reads as it did. -/
def printLinesSpec : ChangeSpec := { name := "printLines", fn := fun _ => fun
  | [d] => { results := [.lit (.bool true)], args := [d] }
  | _ => none }
def printLinesRow : OpenClaim := { program := "ytlmmgpmioaecnaagreatdoor", sum := "c48d95ea45e00d375be47bfdab885357c2d3c228d64c7dfc94a24e6c6aa7b9c1", func := "touchstone/touchstonelaw04.PrintLines", spec := "printLines", inPlace := ["internal/bytealg.IndexByteString", "internal/bytealg.IndexString", "internal/abi.NoEscape", "internal/bytealg.MakeNoZero", "sync/atomic.LoadUint32", "(*internal/sync.Mutex).Lock", "internal/race.Disable", "sync/atomic.CompareAndSwapInt32", "internal/race.Enable", "internal/race.Acquire", "(*internal/sync.Mutex).lockSlow", "internal/sync.runtime_canSpin", "internal/sync.runtime_doSpin", "internal/sync.throw", "internal/sync.runtime_nanotime", "internal/sync.runtime_SemacquireMutex", "sync/atomic.AddInt32", "(*internal/sync.Mutex).Unlock", "internal/race.ReleaseMerge", "(*internal/sync.Mutex).unlockSlow", "internal/sync.fatal", "internal/sync.runtime_Semrelease", "sync/atomic.StoreUint32"], unfollowed := true, recurses := true, named := ["touchstone/lex.operators", "internal/bytealg.MaxLen", "touchstone/syntax.closes"], loops := true, apart := false, laid := [("touchstone/lex.operators", laid_touchstone_lex_operators), ("touchstone/syntax.closes", laid_touchstone_syntax_closes)] }
def PrintLinesSaid : Prop := printLinesRow.holds Tryz.pinned (OpenSpec.ofChange printLinesSpec)

/-- ITS FALSE NEIGHBOUR: 'it returns false'. Refute it at one input. -/
def printLinesWrong : ChangeSpec := { name := "printLines", fn := fun _ => fun
  | [d] => { results := [.lit (.bool false)], args := [d] }
  | _ => none }
def PrintLinesWrongFalsely : Prop := printLinesRow.holds Tryz.pinned (OpenSpec.ofChange printLinesWrong)

/- THE SECOND FORM. 'bulk': how many values and letters a reading holds, each counted each time it is reached (what is shared counts as often as it is met; a slice's spare places count too). A statement '..UptoSaid' is the law's where the arguments, and the package variables that the reading takes, are together of bulk at most 1048576: NARROWER than '..Said'. Prove '..Said' where nothing that the law and all that it calls make is longer than what came in: it says more and counts as full. Else prove '..UptoSaid'. A law counts once. -/
mutual
def uptoBulk {H : Type} : DataW H → Nat
  | .lit (.string bytes) => bytes.length + 1
  | .lit _ => 1
  | .nil => 1
  | .ptr d => uptoBulk d + 1
  | .slice elems spare => uptoBulkAll elems + uptoBulkAll spare + 1
  | .agg parts => uptoBulkAll parts + 1
  | .iface _ d => uptoBulk d + 1
  | .map entries => uptoBulkEntries entries + 1
  | .held _ => 1
def uptoBulkAll {H : Type} : List (DataW H) → Nat
  | [] => 0
  | d :: r => uptoBulk d + uptoBulkAll r
def uptoBulkEntries {H : Type} : List (Lit × DataW H) → Nat
  | [] => 0
  | x :: r => uptoBulkEntry x + uptoBulkEntries r
def uptoBulkEntry {H : Type} : Lit × DataW H → Nat
  | (.string bytes, d) => bytes.length + uptoBulk d + 1
  | (_, d) => uptoBulk d + 1
 end
def uptoSmall : (H : Type) → List (DataW H) → Bool := fun _ ds => decide (uptoBulkAll ds ≤ 1048576)
def OpenSpec.upto (s : _root_.Go.ChangeSpec) : _root_.Go.OpenSpec := { _root_.Go.OpenSpec.ofChange s with cond := some uptoSmall }

/-- 'touchstonelaw04.PrintShows', WHERE WHAT IT READS IS OF BULK AT MOST 1048576: true; the input reads as it did. -/
def printShowsUptoRow : OpenClaim := { program := "ytlmmgpmioaecnaagreatdoor", sum := "c48d95ea45e00d375be47bfdab885357c2d3c228d64c7dfc94a24e6c6aa7b9c1", func := "touchstone/touchstonelaw04.PrintShows", spec := "printShows", inPlace := ["internal/bytealg.IndexByteString", "internal/bytealg.IndexString", "internal/abi.NoEscape", "internal/bytealg.MakeNoZero", "sync/atomic.LoadUint32", "(*internal/sync.Mutex).Lock", "internal/race.Disable", "sync/atomic.CompareAndSwapInt32", "internal/race.Enable", "internal/race.Acquire", "(*internal/sync.Mutex).lockSlow", "internal/sync.runtime_canSpin", "internal/sync.runtime_doSpin", "internal/sync.throw", "internal/sync.runtime_nanotime", "internal/sync.runtime_SemacquireMutex", "sync/atomic.AddInt32", "(*internal/sync.Mutex).Unlock", "internal/race.ReleaseMerge", "(*internal/sync.Mutex).unlockSlow", "internal/sync.fatal", "internal/sync.runtime_Semrelease", "sync/atomic.StoreUint32"], unfollowed := true, recurses := true, named := ["touchstone/lex.operators", "internal/bytealg.MaxLen", "touchstone/syntax.closes"], loops := true, apart := false, laid := [("touchstone/lex.operators", laid_touchstone_lex_operators), ("touchstone/syntax.closes", laid_touchstone_syntax_closes)], narrowed := true }
def PrintShowsUptoSaid : Prop := printShowsUptoRow.holds Tryz.pinned (OpenSpec.upto printShowsSpec)

/-- 'touchstonelaw04.PrintLines', WHERE WHAT IT READS IS OF BULK AT MOST 1048576: true; the input reads as it did. -/
def printLinesUptoRow : OpenClaim := { program := "ytlmmgpmioaecnaagreatdoor", sum := "c48d95ea45e00d375be47bfdab885357c2d3c228d64c7dfc94a24e6c6aa7b9c1", func := "touchstone/touchstonelaw04.PrintLines", spec := "printLines", inPlace := ["internal/bytealg.IndexByteString", "internal/bytealg.IndexString", "internal/abi.NoEscape", "internal/bytealg.MakeNoZero", "sync/atomic.LoadUint32", "(*internal/sync.Mutex).Lock", "internal/race.Disable", "sync/atomic.CompareAndSwapInt32", "internal/race.Enable", "internal/race.Acquire", "(*internal/sync.Mutex).lockSlow", "internal/sync.runtime_canSpin", "internal/sync.runtime_doSpin", "internal/sync.throw", "internal/sync.runtime_nanotime", "internal/sync.runtime_SemacquireMutex", "sync/atomic.AddInt32", "(*internal/sync.Mutex).Unlock", "internal/race.ReleaseMerge", "(*internal/sync.Mutex).unlockSlow", "internal/sync.fatal", "internal/sync.runtime_Semrelease", "sync/atomic.StoreUint32"], unfollowed := true, recurses := true, named := ["touchstone/lex.operators", "internal/bytealg.MaxLen", "touchstone/syntax.closes"], loops := true, apart := false, laid := [("touchstone/lex.operators", laid_touchstone_lex_operators), ("touchstone/syntax.closes", laid_touchstone_syntax_closes)], narrowed := true }
def PrintLinesUptoSaid : Prop := printLinesUptoRow.holds Tryz.pinned (OpenSpec.upto printLinesSpec)

end Rows
end Go.Proofs.YtlmmgpmioaecnaaGreatDoor
