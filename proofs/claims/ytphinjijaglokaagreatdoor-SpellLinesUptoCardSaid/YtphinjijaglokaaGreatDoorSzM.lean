/- A node at a text's begin: by the program (reader.node). -/
import Derived.Test.YtphinjijaglokaaGreatDoorSzL
namespace Go.Vm
open Go Go.Proofs Go.Pa
attribute [local simp] OkP Qo OkS J0 OkG JX J2 OkD JH J1 Ju Jg Jh vop Ji Jp ev evs toV Jf Fr.dsTo Fr.glTo Fr.toNone Jc Jd Je JZ Qk Jb Jr Jj V.undef JG Jx JK JI JL JO JT JP JF JQ JU JM JJ JV Jo Jk Jl Js Jt Jn Jy Jz Jw J3
inductive NRA (A : Nat → Prop) (st : St) : List V → Nt → Prop
 | mk (kind : Nat) (text : S) (nv kv : V) (names : List S) (kids : List Nt) (css : List (List V)) (hk : kind < 256) (hn : Mine 0 9 st nv (names.map .str)) (hs : Mz 4 0 25 st kv css) (ha : ∀ i, vid nv i → A i) (hb : ∀ i, vid kv i → A i) (hl : css.length = kids.length)
   (hr : ∀ i (h : i < css.length) (h' : i < kids.length), NRA A st css[i] kids[i]) : NRA A st [.int .u8 (kind : Int), .str text, nv, kv] (.mk kind text names kids)
def Jmr (st st' : St) (cs : List V) (t : Nt) : Prop := ∃ A : Nat → Prop, NRA A st' cs t ∧ ∀ i, A i → st.ctr ≤ i ∧ i < st'.ctr
theorem Jeg : Q1 Tryz.prog 25 = some (.agg [.int .u8 0, .str ⟨0, 0⟩, .nils, .nils]) := by kernel_rfl
theorem Ja2 : ([.int .u8 0, .str ⟨0, 0⟩, .nils, .nils] : List V).all Qb = true := rfl
theorem Jjr {st : St} {id : Nat} {cs cs' : List V} {fl : Bool} (hb : st.box.get id = some (.cells cs' 25 fl (some 0))) (hl' : cs'.length = 4) (hl : cs.length = 4) (ho : cs.all Qb = true) :
  ∃ st', Jak Tryz.prog st 25 (.ptr id 0) (.agg cs) = some st' ∧ st'.box.get id = some (.cells cs 25 fl (some 0)) ∧ Only id st st' :=
 ⟨_, JfK Jci hb hl' hl ho, by show (st.box.put id _).get id = _; rw [Tr.get_put, if_pos rfl], Nat.le_refl _, fun j hj => by show (st.box.put id _).get j = _; rw [Tr.get_put, if_neg hj]⟩
theorem Ja3 {st : St} {id : Nat} {cs : List V} {e : TypeId} {fl : Bool} {fz : Option Nat} (hb : st.box.get id = some (.cells cs e fl fz)) (hl : cs.length = 4) : Qj Tryz.prog st 25 (.ptr id 0) = some (.agg cs) := by
 have h1 : Nat.ble (0 + 4) cs.length = true := Nat.ble_eq_true_of_le (by omega)
 simp only [Qj, hb, Ja6, Jgx, Jci, h1, sub, List.drop_zero]
 rw [List.take_of_length_le (by omega)]
structure NMk (st0 st : St) (nb : Nat) (nv kv : V) (names : List S) (css : List (List V)) (kids : List Nt) : Prop where
 b : st.box.get nb = some (.cells [.int .u8 2, .str ⟨0, 0⟩, nv, kv] 25 true (some 0))
 lt : nb < st.ctr
 lo : st0.ctr ≤ nb
 hn : Mine st0.ctr 9 st nv (names.map .str)
 hs : Mz 4 st0.ctr 25 st kv css
 n1 : ¬ vid nv nb
 n2 : ¬ vid kv nb
 n3 : ∀ i, vid nv i → ¬ vid kv i
 l : css.length = kids.length
 k : ∃ A : Nat → Prop, (∀ i, A i → st0.ctr ≤ i ∧ i < st.ctr ∧ i ≠ nb ∧ ¬ vid nv i ∧ ¬ vid kv i) ∧ ∀ i (h : i < css.length) (h' : i < kids.length), NRA A st css[i] kids[i]
end Go.Vm
namespace Go.Vm
open Go Go.Proofs Go.Pa
attribute [local simp] OkP Qo OkS J0 OkG JX J2 OkD JH J1 Ju Jg Jh vop Ji Jp ev evs toV Jf Fr.dsTo Fr.glTo Fr.toNone Jc Jd Je JZ Qk Jb Jr Jj V.undef JG Jx JK JI JL JO JT JP JF JQ JU JM JJ JV Jo Jk Jl Js Jt Jn Jy Jz Jw J3
theorem Ja4 (s : S) : Qb (.str s) = true := rfl
theorem Ja5 : Qb .nils = true := rfl
variable [Memo] [NY] [NZ]
end Go.Vm
