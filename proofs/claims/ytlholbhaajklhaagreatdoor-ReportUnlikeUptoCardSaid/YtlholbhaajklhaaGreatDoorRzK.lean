/- All of scenarios: are they too great; how many are of each class: by the program. -/
import Derived.Test.YtlholbhaajklhaaGreatDoorRzI
namespace Go.Vm
open Go Go.Proofs Go.Pa
attribute [local simp] OkS QL OkG Qf Qs OkD J3 Qe JL Je Jk vop Jq Jx ev evs toV Jj Fr.dsTo Fr.glTo Fr.toNone Jg Jh Ji J7 QI Jc JF Jt V.undef JX JQ Qg J8 J9 Qa Qh Qi JT Qb Qj Qc JR Qk JE Jw Jy JD JG Ju JS JW JK Ql
theorem Jhy (s : Sw) : classN s = 0 ∨ classN s = 1 ∨ classN s = 2 := by
 unfold classN
 cases s.inc <;> cases decide (s.code = 0) <;> simp
theorem cA {id n : Nat} (h : n = 0 ∨ n = 1 ∨ n = 2) : Jd Tryz.prog 71 (.ptr id 0) (.int .i64 (n : Int)) = some (.ptr id n) := by
 rcases h with rfl | rfl | rfl <;> kernel_rfl
theorem cA2 {id : Nat} : Jd Tryz.prog 71 (.ptr id 0) (.int .i64 2) = some (.ptr id 2) := by kernel_rfl
variable [Memo] [NY]
end Go.Vm
namespace Go.Vm
open Go Go.Proofs Go.Pa
attribute [local simp] OkS QL OkG Qf Qs OkD J3 Qe JL Je Jk vop Jq Jx ev evs toV Jj Fr.dsTo Fr.glTo Fr.toNone Jg Jh Ji J7 QI Jc JF Jt V.undef JX JQ Qg J8 J9 Qa Qh Qi JT Qb Qj Qc JR Qk JE Jw Jy JD JG Ju JS JW JK Ql
variable [Memo] [NY] [NZ]
variable [NO]
end Go.Vm
