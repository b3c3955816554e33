/- What the law's own helpers answer: same, rising. -/
import Derived.Test.YtphinjijaglokaaGreatDoorSz9
namespace Go.Vm
open Go Go.Proofs Go.Pa
attribute [local simp] OkG JX J2 OkD JH J1 Ju Jg Jh vop Ji Jp ev evs toV Jf Fr.dsTo Fr.glTo Fr.toNone Jc Jd Je JZ Qk Jb Jr Jj V.undef JG Jx JK JI JL JO JT JP JF JQ JU JM JJ JV Jo Jk Jl Js Jt Jn Jy Jz
structure But (x : V) (st st' : St) : Prop where
 ctr : st.ctr ≤ st'.ctr
 box : ∀ i, i < st.ctr → ¬ vid x i → st'.box.get i = st.box.get i
variable [Memo] [NY]
end Go.Vm
namespace Go.Vm
open Go Go.Proofs Go.Pa
attribute [local simp] OkG JX J2 OkD JH J1 Ju Jg Jh vop Ji Jp ev evs toV Jf Fr.dsTo Fr.glTo Fr.toNone Jc Jd Je JZ Qk Jb Jr Jj V.undef JG Jx JK JI JL JO JT JP JF JQ JU JM JJ JV Jo Jk Jl Js Jt Jn Jy Jz
class NA [Memo] : Prop where
 awake : ∀ st : St, (Memo.look 7).run [] st = some (.bool true, st)
variable [Memo] [NY] [NZ] [NO] [NA]
omit [NY] [NZ] [NO] in
theorem Jg6 (gl : Gl) (st : St) : Says Tryz.prog gl 7 [] st fun v st' => v = .bool true ∧ Sm st st' := ⟨_, _, Jc3 (NA.awake st), rfl, rfl⟩
end Go.Vm
namespace Go.Vm
open Go Go.Proofs Go.Pa
attribute [local simp] OkG JX J2 OkD JH J1 Ju Jg Jh vop Ji Jp ev evs toV Jf Fr.dsTo Fr.glTo Fr.toNone Jc Jd Je JZ Qk Jb Jr Jj V.undef JG Jx JK JI JL JO JT JP JF JQ JU JM JJ JV Jo Jk Jl Js Jt Jn Jy Jz Jw J3
theorem Ja (cs : List V) : (V.agg cs).cells = cs := rfl
def Jbh (st : St) (cs : List V) (T : TypeId) : St := st.new (.cells cs T true (some 0))
theorem QQ (st : St) (cs : List V) (T : TypeId) : Keep st (Jbh st cs T) := (Keep.refl st).new' _
theorem JcA (st : St) (cs : List V) (T : TypeId) : (Jbh st cs T).box.get st.ctr = some (.cells cs T true (some 0)) := by unfold Jbh; rw [Qi, if_pos rfl]
theorem JdB (st : St) (cs : List V) (T : TypeId) : (Jbh st cs T).ctr = st.ctr + 1 := rfl
theorem Jam (st : St) (cs : List V) (T : TypeId) : ({ ctr := st.ctr + 1, box := st.box.put st.ctr (.cells cs T true (some 0)) } : St) = Jbh st cs T := rfl
variable [Memo] [NY]
end Go.Vm
