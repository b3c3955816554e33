/- All of scenarios: are they too great; how many are of each class: by the program. -/
import Derived.Test.YtphinjijaglokaaGreatDoorSzC
namespace Go.Vm
open Go Go.Proofs Go.Pa
attribute [local simp] OkS J0 OkG JX J2 OkD JH J1 Ju Jg Jh vop Ji Jp ev evs toV Jf Fr.dsTo Fr.glTo Fr.toNone Jc Jd Je JZ Qk Jb Jr Jj V.undef JG Jx JK JI JL JO JT JP JF JQ JU JM JJ JV Jo Jk Jl Js Jt Jn Jy Jz Jw J3
variable [Memo] [NY]
end Go.Vm
namespace Go.Vm
open Go Go.Proofs Go.Pa
attribute [local simp] OkS J0 OkG JX J2 OkD JH J1 Ju Jg Jh vop Ji Jp ev evs toV Jf Fr.dsTo Fr.glTo Fr.toNone Jc Jd Je JZ Qk Jb Jr Jj V.undef JG Jx JK JI JL JO JT JP JF JQ JU JM JJ JV Jo Jk Jl Js Jt Jn Jy Jz Jw J3
theorem Jk2 (st : St) (n : Nat) : Keep st { ctr := st.ctr + n, box := st.box } := ⟨Nat.le_add_right _ _, fun _ _ => rfl⟩
variable [Memo] [NY] [NZ]
variable [NO]
end Go.Vm
