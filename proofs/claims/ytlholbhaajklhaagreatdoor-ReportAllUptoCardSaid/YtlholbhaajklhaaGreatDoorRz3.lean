/- The same texts: by the document's Same and Under. -/
import Derived.Test.YtlholbhaajklhaaGreatDoorRz2
namespace Go.Vm
open Go Go.Proofs Go.Pa
attribute [local simp] Oks Qn Jh Jn vop Ju JG ev evs toV andThen inBlock Jm Fr.dsTo Fr.glTo Fr.toNone Jj Jk Jl Qj Jc JL Jv V.undef J5 QA QO
variable [Memo] [NY]
end Go.Vm
namespace Go.Vm
open Go Go.Proofs Go.Pa
attribute [local simp] Oks Qn Jh Jn vop Ju JG ev evs toV andThen inBlock Jm Fr.dsTo Fr.glTo Fr.toNone Jj Jk Jl Qj Jc JL Jv V.undef J5 QA QO
theorem Row.vw {x : V} {l : List S} (h : Row sC x l) (st : St) : Vw st x l := by
 cases h with
 | nils => exact .nils
 | sl l ex =>
  have : l.flatMap sC = l.map .str := by
   induction l with
   | nil => rfl
   | cons a l ih => rw [List.flatMap_cons, ih]; rfl
  rw [this]
  exact .sl l ex
variable [Memo] [NY]
end Go.Vm
namespace Go.Vm
open Go Go.Proofs Go.Pa
attribute [local simp] Oks Qn Jh Jn vop Ju JG ev evs toV andThen inBlock Jm Fr.dsTo Fr.glTo Fr.toNone Jj Jk Jl Qj Jc JL Jv V.undef J5 QA QO
variable [Memo] [NY]
end Go.Vm
namespace Go.Vm
open Go Go.Proofs Go.Pa
attribute [local simp] Oks Qn Jh Jn vop Ju JG ev evs toV andThen inBlock Jm Fr.dsTo Fr.glTo Fr.toNone Jj Jk Jl Qj Jc JL Jv V.undef J5 QA QO
variable [Memo] [NY]
end Go.Vm
namespace Go.Vm
open Go Go.Proofs Go.Pa
end Go.Vm
namespace Go.Vm
open Go Go.Proofs Go.Pa
attribute [local simp] Oks Qn Jh Jn vop Ju JG ev evs toV andThen inBlock Jm Fr.dsTo Fr.glTo Fr.toNone Jj Jk Jl Qj Jc JL Jv V.undef J5 QA QO
variable [Memo] [NY]
end Go.Vm
