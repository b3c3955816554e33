/- Show, by the program. -/
import Derived.Test.YtphinjijaglokaaGreatDoorSz8
namespace Go.Vm
open Go Go.Proofs Go.Pa
attribute [local simp] OkG Qh Qp OkD JY Qr JI Jm Jq vop Js JB ev evs toV Jl Fr.dsTo Fr.glTo Fr.toNone Ji Jj Jk Qk QL Jd JD Jv V.undef JW JM J7 JX J3 J9 J8 Qa JH J4 J5 JZ JO Qb Jt Ju Jw Jz JE Jr JL JN JK Qq JV JaI QI
theorem Jme : Q8 Tryz.prog 22 4 [(0, .str (S.ofList [92])), (1, .str (S.ofList [92, 92])), (2, .str (S.ofList [10])), (3, .str (S.ofList [92, 110]))] = some (oldsV, 9, 1) := by kernel_rfl
structure ShowI where
 ri : RI
 out : V
 ts : List S
theorem JnK {st : St} {x s : V} {l m : List V} {lo : Nat} (h : Mine lo 9 st x l) (hm : Jbv st s m) (hlo : lo ≤ st.ctr) (hb : l.length + m.length ≤ 1000000) :
  ∃ y st', QE Tryz.prog st 22 x s = some (y, st') ∧ Low lo st st' ∧ Mine lo 9 st' y (l ++ m) ∧ (∀ i, vid y i → vid x i ∨ st.ctr ≤ i) ∧ ∀ i, i < st.ctr → ¬ vid x i → st'.box.get i = st.box.get i := by
 obtain ⟨i, hi, h1, h2⟩ := i9
 refine h.push2 Tryz.underlying22 hi h1 zs9 rfl hm hlo ?_ (by simp [JA]; omega)
 exact Nat.le_trans (Nat.mul_le_mul hb h2) (by simp [JA])
variable [Memo] [NY] [NZ] [NO]
end Go.Vm
