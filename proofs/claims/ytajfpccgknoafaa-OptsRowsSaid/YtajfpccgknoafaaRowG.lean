/- works() is a known call: a run in the kernel. -/
import Derived.Test.YtajfpccgknoafaaRowF
import Derived.Test.YtajfpccgknoafaaVmMemo
namespace Go.Vm
open Go Go.Proofs

abbrev worksEnt : Ent := ⟨6, [], .bool true⟩

theorem works_mixed : Try.prog.follows .mixedOrders = true := by kernel_rfl

theorem works_ent : EntOk Try.prog .nil worksEnt :=
  entOk_of_run works_mixed rules_nil rfl (n := 1000000) rfl rfl (by kernel_rfl)

abbrev worksMemo : Memo := memoOf .nil [worksEnt.rule]

theorem works_rules : ∀ e ∈ [worksEnt.rule], RuleOk Try.prog .nil e := rules_cons works_ent.rule rules_nil

theorem works_nr : @NR worksMemo := by
  letI : Memo := worksMemo
  refine ⟨fun f hf a st => ?_⟩
  show (mfF f [worksEnt.rule]).run a st = none
  have : Nat.beq 6 f = false := by
    cases h : Nat.beq 6 f with
    | false => rfl
    | true =>
      have := Nat.eq_of_beq_eq_true h
      subst this
      cases hf
  simp only [mfF, Ent.rule, this]
  rfl

theorem works_hit (st : St) : @ihCall (@W worksMemo Try.prog) .nil (.f 6) [] st = .val (.bool true) st := by
  letI : Memo := worksMemo
  refine ihCall_W (W_of rfl (.step ⟨0, fun m _ => ?_⟩))
  rfl

end Go.Vm
