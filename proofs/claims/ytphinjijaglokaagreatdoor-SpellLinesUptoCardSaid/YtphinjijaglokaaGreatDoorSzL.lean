/- Numbers and texts at a text's begin: by the program. -/
import Derived.Test.YtphinjijaglokaaGreatDoorSzK
namespace Go.Vm
open Go Go.Proofs Go.Pa
attribute [local simp] OkP Qo OkS J0 OkG JX J2 OkD JH J1 Ju Jg Jh vop Ji Jp ev evs toV Jf Fr.dsTo Fr.glTo Fr.toNone Jc Jd Je JZ Qk Jb Jr Jj V.undef JG Jx JK JI JL JO JT JP JF JQ JU JM JJ JV Jo Jk Jl Js Jt Jn Jy Jz Jw J3
structure RdB (st : St) (rb : Nat) (s : S) (bad : Bool) : Prop where
 b : st.box.get rb = some (.cells [.str s, .bool bad] 59 true (some 0))
 lt : rb < st.ctr
variable [Memo] [NY]
variable [NZ]
end Go.Vm
namespace Go.Vm
open Go Go.Proofs Go.Pa
inductive Nt.okN : Nt → Prop
 | leaf (k : Nat) (text : S) (hk : k = 1 ∨ k = 3) (ht : text.n < 1000000) : Nt.okN (.mk k text [] [])
 | dir (text : S) (names : List S) (kids : List Nt) (ht : text.n = 0) (hl : names.length = kids.length) (hc : names.length < 1000000) (hn : ∀ s ∈ names, s.n < 1000000) (hk : ∀ t ∈ kids, Nt.okN t) : Nt.okN (.mk 2 text names kids)
mutual
def Jai : Nt → Nt → Bool
 | .mk k a ns ks, t' => match t' with
  | .mk k' a' ns' ks' => decide (k = k') && (a.same a' && (Ja9 S.same ns ns' && Jbr ks ks'))
def Jbr : List Nt → List Nt → Bool
 | [], l => l.isEmpty
 | t :: r, l => match l with
  | [] => false
  | t' :: r' => Jai t t' && Jbr r r'
end
theorem Jew {a b : S} (h : a.toList = b.toList) : a.same b = true := by rw [S.same_eq, h]; simp
def JnL (s : List UInt8) : Prop := ∀ t r, Nt.okN t → s ≠ shw t ++ r
structure DirTo (s : List UInt8) (c : Nat) (names : List S) (kids : List Nt) (r : List UInt8) : Prop where
 e : s = 100 :: (Ja1 c ++ 58 :: (Jmx kids names ++ r))
 l : names.length = kids.length
 c : c < 1000000
 n : ∀ z ∈ names, z.n < 1000000
 k : ∀ t ∈ kids, t.okN
end Go.Vm
namespace Go.Vm
open Go Go.Proofs Go.Pa
attribute [local simp] OkP Qo OkS J0 OkG JX J2 OkD JH J1 Ju Jg Jh vop Ji Jp ev evs toV Jf Fr.dsTo Fr.glTo Fr.toNone Jc Jd Je JZ Qk Jb Jr Jj V.undef JG Jx JK JI JL JO JT JP JF JQ JU JM JJ JV Jo Jk Jl Js Jt Jn Jy Jz Jw J3
variable [Memo] [NY] [NZ]
end Go.Vm
