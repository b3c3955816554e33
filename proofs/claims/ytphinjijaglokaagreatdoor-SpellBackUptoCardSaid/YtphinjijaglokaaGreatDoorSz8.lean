/- strings.Count; a replacer of bytes by texts. -/
import Derived.Test.YtphinjijaglokaaGreatDoorSz7
namespace Go.Vm
open Go Go.Proofs Go.Pa
attribute [local simp] OkG Qa Qe OkD J3 Qd JA Je Jj vop Jk Jr ev evs toV Ji Fr.dsTo Fr.glTo Fr.toNone Jf Jg Jh J9 Qu Jc Jy Jn V.undef JP JI JY JS JZ J7 J0 J1 JD J2 JV JT JQ J8 Jq Jo Jt Jw Jx Jp JL JM JC Qg Jaj Jak Q2
def JmG (b1 b2 i : Nat) : V := if i = 10 then .ms b1 0 2 1 none else if i = 92 then .ms b2 0 2 1 none else .nils
def TC (b1 b2 a : Nat) : List V := (List.range 256).map (JmG b1 b2) ++ [.ms a 0 2 1 (some 2)]
structure RBt (st : St) (t a b1 b2 : Nat) : Prop where
 tb : st.box.get t = some (.cells (TC b1 b2 a) 153 true (some 0))
 ab : st.box.get a = some (.cells [.str (S.ofList [10]), .str (S.ofList [92])] 9 true (some 0))
 b1b : st.box.get b1 = some (.cells [.int .u8 92, .int .u8 110] 5 false none)
 b2b : st.box.get b2 = some (.cells [.int .u8 92, .int .u8 92] 5 false none)
 tlt : t < st.ctr
 alt : a < st.ctr
 lt1 : b1 < st.ctr
 lt2 : b2 < st.ctr
variable [Memo] [NY] [NZ]
end Go.Vm
namespace Go.Vm
open Go Go.Proofs Go.Pa
attribute [local simp] OkG Qa Qe OkD J3 Qd JA Je Jj vop Jk Jr ev evs toV Ji Fr.dsTo Fr.glTo Fr.toNone Jf Jg Jh J9 Qu Jc Jy Jn V.undef JP JI JY JS JZ J7 J0 J1 JD J2 JV JT JQ J8 Jq Jo Jt Jw Jx Jp JL JM JC Qg Jaj Jak Q2
def JfA : List V := [.str (S.ofList [92]), .str (S.ofList [92, 92]), .str (S.ofList [10]), .str (S.ofList [92, 110])]
structure Raw (st : St) (r o : Nat) : Prop where
 rb : st.box.get r = some (.cells [.int .u32 0, .int .i32 0, .int .u32 0, .nili, .ms o 0 4 1 none] 109 true (some 0))
 ob : st.box.get o = some (.cells JfA 9 false (some 0))
 rlt : r < st.ctr
 olt : o < st.ctr
 ne : r ≠ o
structure Bui (st : St) (r t a b1 b2 : Nat) : Prop where
 rb : st.box.get r = some (.cells [.int .u32 1, .int .i32 0, .int .u32 0, .iface 154 (.ptr t 0), .nils] 109 true (some 0))
 rlt : r < st.ctr
 tb : RBt st t a b1 b2
class NO [Memo] : Prop where
 done : ∀ (st : St) (r : Nat) (g : V) (l : List V), st.box.get r = some (.cells (V.int .u32 1 :: l) 109 true (some 0)) → (Memo.look 77).run [.ptr r 0, g] st = none
 fresh : ∀ (st : St) (r o : Nat), Raw st r o → ∃ st' t a b1 b2, (Memo.look 77).run [.ptr r 0, .fn 78 [.ptr r 0] []] st = some (.tup [], st') ∧ Bui st' r t a b1 b2 ∧ st.ctr ≤ st'.ctr ∧ (∀ i, i < st.ctr → i ≠ r → st'.box.get i = st.box.get i) ∧ st.ctr ≤ t ∧ st.ctr ≤ a ∧ st.ctr ≤ b1 ∧ st.ctr ≤ b2
variable [Memo] [NY] [NZ] [NO]
inductive RI where
 | raw (o : Nat)
 | bui (t a b1 b2 : Nat)
end Go.Vm
namespace Go.Vm
open Go Go.Proofs Go.Pa
attribute [local simp] OkG Qa Qe OkD J3 Qd JA Je Jj vop Jk Jr ev evs toV Ji Fr.dsTo Fr.glTo Fr.toNone Jf Jg Jh J9 Qu Jc Jy Jn V.undef JP JI JY JS JZ J7 J0 J1 JD J2 JV JT JQ J8 Jq Jo Jt Jw Jx Jp JL JM JC Qg Jaj Jak Q2
structure ShowI where
 ri : RI
 out : V
 ts : List S
variable [Memo] [NY] [NZ] [NO]
end Go.Vm
namespace Go.Vm
open Go Go.Proofs Go.Pa
attribute [local simp] OkG Qa Qe OkD J3 Qd JA Je Jj vop Jk Jr ev evs toV Ji Fr.dsTo Fr.glTo Fr.toNone Jf Jg Jh J9 Qu Jc Jy Jn V.undef JP JI JY JS JZ J7 J0 J1 JD J2 JV JT JQ J8 Jq Jo Jt Jw Jx Jp JL JM
structure But (x : V) (st st' : St) : Prop where
 ctr : st.ctr ≤ st'.ctr
 box : ∀ i, i < st.ctr → ¬ vid x i → st'.box.get i = st.box.get i
variable [Memo] [NY]
end Go.Vm
namespace Go.Vm
open Go Go.Proofs Go.Pa
attribute [local simp] OkG Qa Qe OkD J3 Qd JA Je Jj vop Jk Jr ev evs toV Ji Fr.dsTo Fr.glTo Fr.toNone Jf Jg Jh J9 Qu Jc Jy Jn V.undef JP JI JY JS JZ J7 J0 J1 JD J2 JV JT JQ J8 Jq Jo Jt Jw Jx Jp JL JM
class NA [Memo] : Prop where
 awake : ∀ st : St, (Memo.look 7).run [] st = some (.bool true, st)
variable [Memo] [NY] [NZ] [NO] [NA]
omit [NY] [NZ] [NO] in
theorem JjC (gl : Gl) (st : St) : Says Tryz.prog gl 7 [] st fun v st' => v = .bool true ∧ Sm st st' := ⟨_, _, JdZ (NA.awake st), rfl, rfl⟩
end Go.Vm
namespace Go.Vm
open Go Go.Proofs Go.Pa
attribute [local simp] OkG Qa Qe OkD J3 Qd JA Je Jj vop Jk Jr ev evs toV Ji Fr.dsTo Fr.glTo Fr.toNone Jf Jg Jh J9 Qu Jc Jy Jn V.undef JP JI JY JS JZ J7 J0 J1 JD J2 JV JT JQ J8 Jq Jo Jt Jw Jx Jp JL JM JC Qg
theorem Ja (cs : List V) : (V.agg cs).cells = cs := rfl
def Jan (st : St) (cs : List V) (T : TypeId) : St := st.new (.cells cs T true (some 0))
theorem Qk (st : St) (cs : List V) (T : TypeId) : Keep st (Jan st cs T) := (Keep.refl st).new' _
theorem Q4 (st : St) (cs : List V) (T : TypeId) : (Jan st cs T).box.get st.ctr = some (.cells cs T true (some 0)) := by unfold Jan; rw [JiC, if_pos rfl]
theorem Jai (st : St) (cs : List V) (T : TypeId) : (Jan st cs T).ctr = st.ctr + 1 := rfl
theorem QE (st : St) (cs : List V) (T : TypeId) : ({ ctr := st.ctr + 1, box := st.box.put st.ctr (.cells cs T true (some 0)) } : St) = Jan st cs T := rfl
variable [Memo] [NY]
end Go.Vm
