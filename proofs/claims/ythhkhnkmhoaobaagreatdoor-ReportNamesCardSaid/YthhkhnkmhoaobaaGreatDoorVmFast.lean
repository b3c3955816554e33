/- A closed statement by the fast evaluator: the call returns true and nothing that was there is changed. -/
import Derived.Test.YthhkhnkmhoaobaaGreatDoorVmFx10
import Derived.Test.YthhkhnkmhoaobaaGreatDoorVmLaid
namespace Go.Vm
open Go Go.RowKit

theorem calls_of_fends {P : Program} (hm : P.follows .mixedOrders = true) {n f : Nat} (h : fendsG P .nil n f = true) (w : World) :
    Calls P f #[] w fun e w' => e = .returned (.bool true) ∧ Below w.heap.size w w' := by
  obtain ⟨N, hN⟩ := ends_of_fends h
  exact calls_of_endsG hm hN w (GlR.nil _)

theorem calls_of_fast {P : Program} (hm : P.follows .mixedOrders = true) {laid : List (String × DataW Unit)} {E : Option TypeId} {use : List String} {gl : Gl} {n f : Nat}
    (hE : ∀ tp, E = some tp → ∀ u, P.typeName? 3 u = some "*errors.errorString" → u = tp) (hp : (laid.all fun x => x.2.handleName?.isNone) = true)
    (hg : glOf P E laid use = some gl) (h : fendsG P gl n f = true) (w : World) (hl : laidMetH P laid w) :
    Calls P f #[] w fun e w' => e = .returned (.bool true) ∧ Below w.heap.size w w' := by
  obtain ⟨N, hN⟩ := ends_of_fends h
  exact calls_of_laid hm hE hp hg hN w hl

end Go.Vm
