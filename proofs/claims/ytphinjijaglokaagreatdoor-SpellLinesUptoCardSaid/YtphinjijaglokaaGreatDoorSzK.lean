/- strconv.Atoi: short numbers. -/
import Derived.Test.YtphinjijaglokaaGreatDoorSzI
import Derived.Test.YtphinjijaglokaaGreatDoorSzC
namespace Go.Vm
open Go Go.Proofs Go.Pa
attribute [local simp] OkP Qo OkS J0 OkG JX J2 OkD JH J1 Ju Jg Jh vop Ji Jp ev evs toV Jf Fr.dsTo Fr.glTo Fr.toNone Jc Jd Je JZ Qk Jb Jr Jj V.undef JG Jx JK JI JL JO JT JP JF JQ JU JM JJ JV Jo Jk Jl Js Jt Jn Jy Jz Jw J3
def JnF (l : List UInt8) : Nat := l.foldl (fun a b => a * 10 + (b.toNat - 48)) 0
structure AtR (s : S) (n : Int) (none : Bool) : Prop where
 a : s.n ≤ 6 → none = true → n < 1000000
 b : ∀ m : Nat, m < 1000000 → s.toList = Ja1 m → n = (m : Int) ∧ none = true
variable [Memo] [NY]
omit [Memo] [NY] in
theorem hi5 : ∃ i, Tryz.prog.info? 5 = some i ∧ i.size = 1 ∧ i.bytes ≤ 64 := by
 have h : (match Tryz.prog.info? 5 with
  | some i => Nat.beq i.size 1 && Nat.ble i.bytes 64
  | none => false) = true := by kernel_rfl
 split at h
 ·rename_i i hi
  simp only [Bool.and_eq_true] at h
  exact ⟨i, hi, Nat.eq_of_beq_eq_true h.1, Nat.le_of_ble_eq_true h.2⟩
 ·cases h
end Go.Vm
namespace Go.Vm
open Go Go.Proofs Go.Pa
attribute [local simp] OkP Qo OkS J0 OkG JX J2 OkD JH J1 Ju Jg Jh vop Ji Jp ev evs toV Jf Fr.dsTo Fr.glTo Fr.toNone Jc Jd Je JZ Qk Jb Jr Jj V.undef JG Jx JK JI JL JO JT JP JF JQ JU JM JJ JV Jo Jk Jl Js Jt Jn Jy Jz Jw J3
variable [Memo] [NY]
end Go.Vm
