/- A node's text: by the program. -/
import Derived.Test.YtphinjijaglokaaGreatDoorSzH
import Derived.Test.YtphinjijaglokaaGreatDoorSz4
namespace Go.Vm
open Go Go.Proofs Go.Pa
attribute [local simp] OkP Qo OkS J0 OkG JX J2 OkD JH J1 Ju Jg Jh vop Ji Jp ev evs toV Jf Fr.dsTo Fr.glTo Fr.toNone Jc Jd Je JZ Qk Jb Jr Jj V.undef JG Jx JK JI JL JO JT JP JF JQ JU JM JJ JV Jo Jk Jl Js Jt Jn Jy Jz Jw J3
def Jmw (s : S) : List UInt8 := Ja1 s.n ++ 58 :: s.toList
mutual
def shw : Nt → List UInt8
 | .mk kind text names kids => cond (decide (kind = 1)) (102 :: Jmw text) (cond (decide (kind = 3)) (108 :: Jmw text) (100 :: (Ja1 names.length ++ 58 :: Jmx kids names)))
def Jmx : List Nt → List S → List UInt8
 | [], _ => []
 | t :: l, names => match names with
  | [] => []
  | s :: r => Jmw s ++ (shw t ++ Jmx l r)
end
structure Wx (b pb wb : Nat) (st : St) (F : Nat → Prop) (l : List UInt8) : Prop where
 w : Wb b st F l
 p : st.box.get pb = some (.cells [.fn 20 [.ptr b 0] []] 43 true (some 0))
 plt : pb < st.ctr
 pf : ¬ F pb
 q : st.box.get wb = some (.cells [.fn 21 [] [.ptr pb 0, .ptr wb 0]] 44 true (some 0))
 qlt : wb < st.ctr
 qf : ¬ F wb
theorem Jg7 (st : St) (n : Nat) : ∃ q : St, ({ ctr := st.ctr + n, box := st.box } : St) = q ∧ Keep st q ∧ st.ctr + n = q.ctr := ⟨_, rfl, Jk2 st n, rfl⟩
theorem Jib {kind : Nat} {text : S} {names : List S} {kids : List Nt} (h : QA (.mk kind text names kids) = true) (hk : kind = 1 ∨ kind = 3) : names = [] ∧ kids = [] ∧ Jlj text = true ∧ (kind = 3 → text.n ≠ 0) := by
 unfold QA at h
 have : (decide (kind = 1) || decide (kind = 3)) = true := by rcases hk with rfl | rfl <;> rfl
 rw [this, cond_true] at h
 simp only [Bool.and_eq_true, decide_eq_true_eq, Bool.or_eq_true, Bool.not_eq_true', decide_eq_false_iff_not] at h
 obtain ⟨h1, h2, h3⟩ := h
 exact ⟨List.eq_nil_of_length_eq_zero (by omega), List.eq_nil_of_length_eq_zero (by omega), h2, fun h => by rcases h3 with h3 | h3; omega; exact h3⟩
theorem JfM {kind : Nat} {text : S} {names : List S} {kids : List Nt} (h : QA (.mk kind text names kids) = true) (h1 : kind ≠ 1) (h3 : kind ≠ 3) : kind = 2 ∧ text.n = 0 ∧ names.length = kids.length ∧ Q7 names = true ∧ ∀ t ∈ kids, QA t = true := by
 unfold QA at h
 rw [decide_eq_false h1, decide_eq_false h3] at h
 by_cases h2 : kind = 2
 ·rw [decide_eq_true h2] at h
  simp only [Bool.or_self, cond_false, cond_true, Bool.and_eq_true, decide_eq_true_eq] at h
  exact ⟨h2, h.1, h.2.1, h.2.2.1, JbZ.1 h.2.2.2⟩
 ·rw [decide_eq_false h2] at h; simp at h
variable [Memo] [NY] [NZ]
end Go.Vm
namespace Go.Vm
open Go Go.Proofs Go.Pa
attribute [local simp] OkP Qo OkS J0 OkG JX J2 OkD JH J1 Ju Jg Jh vop Ji Jp ev evs toV Jf Fr.dsTo Fr.glTo Fr.toNone Jc Jd Je JZ Qk Jb Jr Jj V.undef JG Jx JK JI JL JO JT JP JF JQ JU JM JJ JV Jo Jk Jl Js Jt Jn Jy Jz Jw J3
variable [Memo] [NY] [NZ]
end Go.Vm
