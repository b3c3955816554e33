/- Which texts, files and links may be: by the program. -/
import Derived.Test.YtphinjijaglokaaGreatDoorSzA
import Derived.Test.YtphinjijaglokaaGreatDoorSz4
import Derived.Test.YtphinjijaglokaaGreatDoorSzB
namespace Go.Vm
open Go Go.Proofs Go.Pa
attribute [local simp] OkG JX J2 OkD JH J1 Ju Jg Jh vop Ji Jp ev evs toV Jf Fr.dsTo Fr.glTo Fr.toNone Jc Jd Je JZ Qk Jb Jr Jj V.undef JG Jx JK JI JL JO JT JP JF JQ JU JM JJ JV Jo Jk Jl Js Jt Jn Jy Jz Jw J3
def noZ (s : S) : Bool := !s.toList.contains 0
def Jlj (s : S) : Bool := noZ s && decide (s.n ≤ 256)
theorem Jj3 (s : S) : decide (Lib.indexByte s.toList 0 < 0) = noZ s := by
 have h := Jb3 s.toList 0
 unfold noZ
 by_cases hm : (0 : UInt8) ∈ s.toList
 ·rw [decide_eq_false (by have := h.2 hm; omega)]
  simp [hm]
 ·rw [decide_eq_true (by have : ¬ 0 ≤ Lib.indexByte s.toList 0 := fun hh => hm (h.1 hh); omega)]
  simp [hm]
variable [Memo] [NY]
end Go.Vm
namespace Go.Vm
open Go Go.Proofs Go.Pa
attribute [local simp] OkS J0 OkG JX J2 OkD JH J1 Ju Jg Jh vop Ji Jp ev evs toV Jf Fr.dsTo Fr.glTo Fr.toNone Jc Jd Je JZ Qk Jb Jr Jj V.undef JG Jx JK JI JL JO JT JP JF JQ JU JM JJ JV Jo Jk Jl Js Jt Jn Jy Jz Jw J3
variable [Memo] [NY]
variable [NZ] [NO]
end Go.Vm
namespace Go.Vm
open Go Go.Proofs Go.Pa
attribute [local simp] OkS J0 OkG JX J2 OkD JH J1 Ju Jg Jh vop Ji Jp ev evs toV Jf Fr.dsTo Fr.glTo Fr.toNone Jc Jd Je JZ Qk Jb Jr Jj V.undef JG Jx JK JI JL JO JT JP JF JQ JU JM JJ JV Jo Jk Jl Js Jt Jn Jy Jz Jw J3
theorem Jbp : Q1 Tryz.prog 42 = some (.agg [.nilp, .nils]) := by kernel_rfl
variable [Memo] [NY]
variable [NZ] [NO]
end Go.Vm
