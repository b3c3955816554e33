/- Numbers and texts at a text's begin: by the document. -/
import Derived.Test.YtphinjijaglokaaGreatDoorSzN
namespace Go.Vm
open Go Go.Proofs Go.Pa
attribute [local simp] OkP Qr OkS Qf OkG Qa Qe OkD J3 Qd JA Je Jj vop Jk Jr ev evs toV Ji Fr.dsTo Fr.glTo Fr.toNone Jf Jg Jh J9 Qu Jc Jy Jn V.undef JP JI JY JS JZ J7 J0 J1 JD J2 JV JT JQ J8 Jq Jo Jt Jw Jx Jp JL JM JC Qg
structure NumTo (s : S) (i n : Nat) : Prop where
 le : i ≤ s.n
 dg : ∀ j, j < i → 48 ≤ s.at j ∧ s.at j ≤ 57
 vl : n = JgQ (s.toList.take i)
 bd : n < 10 ^ i
variable [Memo] [NY] [NZ]
end Go.Vm
namespace Go.Vm
open Go Go.Proofs Go.Pa
attribute [local simp] OkP Qr OkS Qf OkG Qa Qe OkD J3 Qd JA Je Jj vop Jk Jr ev evs toV Ji Fr.dsTo Fr.glTo Fr.toNone Jf Jg Jh J9 Qu Jc Jy Jn V.undef JP JI JY JS JZ J7 J0 J1 JD J2 JV JT JQ J8 Jq Jo Jt Jw Jx Jp JL JM JC Qg
structure RNodeR (s : S) (st : St) (v : V) (st' : St) (cs : List V) (t : Nt) (r : S) (ok : Bool) : Prop where
 v : v = .tup [.agg cs, .str r, .bool ok]
 f : Fresh st st' cs t
 l : r.n ≤ s.n
 y : ok = true → t.okN ∧ s.toList = shw t ++ r.toList
 n : ok = false → JcL s.toList
variable [Memo] [NY] [NZ]
end Go.Vm
namespace Go.Vm
open Go Go.Proofs Go.Pa
attribute [local simp] OkP Qr OkS Qf OkG Qa Qe OkD J3 Qd JA Je Jj vop Jk Jr ev evs toV Ji Fr.dsTo Fr.glTo Fr.toNone Jf Jg Jh J9 Qu Jc Jy Jn V.undef JP JI JY JS JZ J7 J0 J1 JD J2 JV JT JQ J8 Jq Jo Jt Jw Jx Jp JL JM JC Qg
variable [Memo] [NY] [NZ]
end Go.Vm
