/- Numbers and texts at a text's begin: by the document. -/
import Derived.Test.YtphinjijaglokaaGreatDoorSzN
namespace Go.Vm
open Go Go.Proofs Go.Pa
attribute [local simp] OkP Qo OkS J0 OkG JX J2 OkD JH J1 Ju Jg Jh vop Ji Jp ev evs toV Jf Fr.dsTo Fr.glTo Fr.toNone Jc Jd Je JZ Qk Jb Jr Jj V.undef JG Jx JK JI JL JO JT JP JF JQ JU JM JJ JV Jo Jk Jl Js Jt Jn Jy Jz Jw J3
structure NumTo (s : S) (i n : Nat) : Prop where
 le : i ≤ s.n
 dg : ∀ j, j < i → 48 ≤ s.at j ∧ s.at j ≤ 57
 vl : n = JnF (s.toList.take i)
 bd : n < 10 ^ i
variable [Memo] [NY] [NZ]
end Go.Vm
namespace Go.Vm
open Go Go.Proofs Go.Pa
attribute [local simp] OkP Qo OkS J0 OkG JX J2 OkD JH J1 Ju Jg Jh vop Ji Jp ev evs toV Jf Fr.dsTo Fr.glTo Fr.toNone Jc Jd Je JZ Qk Jb Jr Jj V.undef JG Jx JK JI JL JO JT JP JF JQ JU JM JJ JV Jo Jk Jl Js Jt Jn Jy Jz Jw J3
structure RNodeR (s : S) (st : St) (v : V) (st' : St) (cs : List V) (t : Nt) (r : S) (ok : Bool) : Prop where
 v : v = .tup [.agg cs, .str r, .bool ok]
 f : Jmr st st' cs t
 l : r.n ≤ s.n
 y : ok = true → t.okN ∧ s.toList = shw t ++ r.toList
 n : ok = false → JnL s.toList
variable [Memo] [NY] [NZ]
end Go.Vm
namespace Go.Vm
open Go Go.Proofs Go.Pa
attribute [local simp] OkP Qo OkS J0 OkG JX J2 OkD JH J1 Ju Jg Jh vop Ji Jp ev evs toV Jf Fr.dsTo Fr.glTo Fr.toNone Jc Jd Je JZ Qk Jb Jr Jj V.undef JG Jx JK JI JL JO JT JP JF JQ JU JM JJ JV Jo Jk Jl Js Jt Jn Jy Jz Jw J3
variable [Memo] [NY] [NZ]
end Go.Vm
