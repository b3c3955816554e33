/- What the law's own helpers answer: same, rising. -/
import Derived.Test.YtphinjijaglokaaGreatDoorSz9
namespace Go.Vm
open Go Go.Proofs Go.Pa
attribute [local simp] OkG Qh Qp OkD JY Qr JI Jm Jq vop Js JB ev evs toV Jl Fr.dsTo Fr.glTo Fr.toNone Ji Jj Jk Qk QL Jd JD Jv V.undef JW JM J7 JX J3 J9 J8 Qa JH J4 J5 JZ JO Qb Jt Ju Jw Jz JE Jr JL JN
structure But (x : V) (st st' : St) : Prop where
 ctr : st.ctr ≤ st'.ctr
 box : ∀ i, i < st.ctr → ¬ vid x i → st'.box.get i = st.box.get i
variable [Memo] [NY]
end Go.Vm
namespace Go.Vm
open Go Go.Proofs Go.Pa
attribute [local simp] OkG Qh Qp OkD JY Qr JI Jm Jq vop Js JB ev evs toV Jl Fr.dsTo Fr.glTo Fr.toNone Ji Jj Jk Qk QL Jd JD Jv V.undef JW JM J7 JX J3 J9 J8 Qa JH J4 J5 JZ JO Qb Jt Ju Jw Jz JE Jr JL JN
class NA [Memo] : Prop where
 awake : ∀ st : St, (Memo.look 7).run [] st = some (.bool true, st)
variable [Memo] [NY] [NZ] [NO] [NA]
omit [NY] [NZ] [NO] in
theorem Jid (gl : Gl) (st : St) : Says Tryz.prog gl 7 [] st fun v st' => v = .bool true ∧ Sm st st' := ⟨_, _, Jdb (NA.awake st), rfl, rfl⟩
end Go.Vm
namespace Go.Vm
open Go Go.Proofs Go.Pa
attribute [local simp] OkG Qh Qp OkD JY Qr JI Jm Jq vop Js JB ev evs toV Jl Fr.dsTo Fr.glTo Fr.toNone Ji Jj Jk Qk QL Jd JD Jv V.undef JW JM J7 JX J3 J9 J8 Qa JH J4 J5 JZ JO Qb Jt Ju Jw Jz JE Jr JL JN JK Qq
theorem Ja (cs : List V) : (V.agg cs).cells = cs := rfl
def Q4 (st : St) (cs : List V) (T : TypeId) : St := st.new (.cells cs T true (some 0))
theorem JJ (st : St) (cs : List V) (T : TypeId) : Keep st (Q4 st cs T) := (Keep.refl st).new' _
theorem QF (st : St) (cs : List V) (T : TypeId) : (Q4 st cs T).box.get st.ctr = some (.cells cs T true (some 0)) := by unfold Q4; rw [QC, if_pos rfl]
theorem QO (st : St) (cs : List V) (T : TypeId) : (Q4 st cs T).ctr = st.ctr + 1 := rfl
theorem Qc (st : St) (cs : List V) (T : TypeId) : ({ ctr := st.ctr + 1, box := st.box.put st.ctr (.cells cs T true (some 0)) } : St) = Q4 st cs T := rfl
variable [Memo] [NY]
end Go.Vm
