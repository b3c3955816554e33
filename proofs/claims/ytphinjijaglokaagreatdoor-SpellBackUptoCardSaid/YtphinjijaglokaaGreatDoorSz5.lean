/- Ranges over functions: those who take what a function yields, and what they make of it. -/
import Derived.Test.YtphinjijaglokaaGreatDoorSz4
namespace Go.Vm
open Go
theorem Jaj {cs : List V} : (V.agg cs).cells = cs := rfl
theorem Jak {k : IntKind} {n : Int} : (V.int k n).cells = [.int k n] := rfl
theorem Q2 : V.nils.cells = [.nils] := rfl
structure Outs (F : Nat → Prop) (st st' : St) : Prop where
 ctr : st.ctr ≤ st'.ctr
 box : ∀ i, i < st.ctr → ¬ F i → st'.box.get i = st.box.get i
theorem Outs.trans {F : Nat → Prop} {a b c : St} (h : Outs F a b) (k : Outs F b c) : Outs F a c := ⟨Nat.le_trans h.ctr k.ctr, fun i hi hf => (k.box i (Nat.lt_of_lt_of_le hi h.ctr) hf).trans (h.box i hi hf)⟩
theorem Outs.of {F : Nat → Prop} {a b : St} (h : Keep a b) : Outs F a b := ⟨h.ctr, fun i hi _ => h.box i hi⟩
theorem Vw.one {st : St} {x : V} {l : List S} (h : Vw st x l) : QB x = true := by cases h <;> rfl
variable [Memo]
structure Cons (P : Program) (gl : Gl) (id : Nat) (α : Type) (val : (Nat → Prop) → St → α → List V → Prop) (σ τ : Type) (obs : σ → τ) (F : σ → Nat → Prop) (step : τ → α → τ × Bool) (pre : τ → α → Prop) (I : σ → Bool → St → Prop) : Prop where
 low : ∀ s b st, I s b st → ∀ i, F s i → i < st.ctr
 stable : ∀ s b st st', I s b st → st.ctr ≤ st'.ctr → (∀ i, F s i → st'.box.get i = st.box.get i) → I s b st'
 round : ∀ s st x args, I s false st → val (F s) st x args → pre (obs s) x → ∃ s' st', ihCall (W P) gl (.y id) args st = .val (.bool (step (obs s) x).2) st' ∧ obs s' = (step (obs s) x).1 ∧ I s' (!(step (obs s) x).2) st' ∧ Outs (F s) st st' ∧ ∀ i, F s' i → F s i ∨ st.ctr ≤ i
end Go.Vm
namespace Go.Vm
open Go Go.Proofs Go.Pa
variable [Memo]
end Go.Vm
namespace Go.Vm
open Go Go.Proofs Go.Pa
attribute [local simp] OkG Qa Qe OkD J3 Qd JA Je Jj vop Jk Jr ev evs toV Ji Fr.dsTo Fr.glTo Fr.toNone Jf Jg Jh J9 Qu Jc Jy Jn V.undef JP JI JY JS JZ J7 J0 J1 JD J2 JV JT JQ J8 Jq Jo Jt Jw Jx Jp JL JM JC Qg
variable [Memo] [NY]
end Go.Vm
namespace Go.Vm
open Go Go.Proofs Go.Pa
variable [Memo] [NY]
end Go.Vm
