/- Two tokens, compared. -/
import Derived.Test.YtedkiipdgffoaaaDoorLxE
namespace Go.Vm
open Go Go.Proofs Go.Lx

theorem unSem_bind_eq {α β : Type} (P : Program) : ∀ (s : Sem α) (f : α → Sem β), unSem P (s >>= f) = (unSem P s).bind (fun a => unSem P (f a)) := by
  intro s
  induction s with
  | pure a => intro f; rfl
  | program k ih => intro f; exact ih P f
  | mark m k ih => intro f; exact ih f
  | _ => intro f; rfl

theorem unSem_pure {α : Type} (P : Program) (a : α) : unSem P (pure a) = some a := rfl
theorem unSem_program (P : Program) : unSem P program = some P := rfl
theorem unSem_underlying {P : Program} {t : TypeId} {d : TypeDesc} (h : P.underlying t = some d) : unSem P (underlying t) = some d := by
  simp [underlying, unSem_bind_eq, unSem_program, h, unSem_pure]
theorem unSem_isAgg {P : Program} {t : TypeId} {b : Bool} (h : isAggT P t = some b) : unSem P (isAgg t) = some b := by
  unfold isAggT at h
  cases hu : P.underlying t with
  | none => rw [hu] at h; cases h
  | some d =>
    rw [hu] at h
    simp only [isAgg, unSem_bind_eq, unSem_underlying hu, Option.bind_some]
    cases d <;> simp_all [unSem_pure]

theorem unSem_part {P : Program} {t : TypeId} {cs : Array Value} {off : Nat} {v : Value} (h : isAggT P t = some false) (hv : cs[off]? = some v) : unSem P (part t cs off) = some v := by
  simp [part, unSem_bind_eq, unSem_isAgg h, hv, unSem_pure]

theorem eq_int {P : Program} {d : Nat} {t : TypeId} {k k' : IntKind} {a b : Int} (h : P.underlying t = some (.int k')) : unSem P (Op.equalIn (d + 1) t (.int k a) (.int k b)) = some (a == b) := by
  simp only [Op.equalIn, unSem_bind_eq, unSem_underlying h, Option.bind_some]
  simp [unSem_pure]
theorem eq_str {P : Program} {d : Nat} {t : TypeId} {a b : ByteArray} (h : P.underlying t = some .string) : unSem P (Op.equalIn (d + 1) t (.string a) (.string b)) = some (a == b) := by
  simp only [Op.equalIn, unSem_bind_eq, unSem_underlying h, Option.bind_some]
  simp [unSem_pure]

theorem bytes_beq (s t : S) : ((⟨⟨s.toList⟩⟩ : ByteArray) == ⟨⟨t.toList⟩⟩) = s.same t := by
  rw [S.same_eq]
  show ((⟨s.toList⟩ : Array UInt8) == ⟨t.toList⟩) = _
  simp

theorem tok_neq (kk : Bool) (k1 k2 p1 p2 : Int) (s1 s2 : S) : vbin Tryd.prog kk .neq 31 (.agg [.int .u8 k1, .str s1, .int .i64 p1]) (.agg [.int .u8 k2, .str s2, .int .i64 p2]) = some (.bool (!(decide (k1 = k2) && s1.same s2 && decide (p1 = p2)))) := by
  have hg : Tryd.prog.eqGuardType Tryd.prog.depth 31 = false := by kernel_rfl
  have hs : Tryd.prog.stoodInHeld 31 = false := by kernel_rfl
  have a5 : isAggT Tryd.prog 5 = some false := by kernel_rfl
  simp only [vbin, viaSem, traverse, ofV]
  have h2 : ∀ a b : Value, (a = .agg #[.int .u8 k1, .string ⟨⟨s1.toList⟩⟩, .int .i64 p1]) → b = .agg #[.int .u8 k2, .string ⟨⟨s2.toList⟩⟩, .int .i64 p2] → unSem Tryd.prog (do eqGuard .neq 31 (opK kk) (.tmp 0) a b; binOp .neq 31 a b) = some (.bool (!(decide (k1 = k2) && s1.same s2 && decide (p1 = p2)))) := by
    rintro a b rfl rfl
    have h3 : unSem Tryd.prog (Op.equal 31 (.agg #[.int .u8 k1, .string ⟨⟨s1.toList⟩⟩, .int .i64 p1]) (.agg #[.int .u8 k2, .string ⟨⟨s2.toList⟩⟩, .int .i64 p2])) = some (decide (k1 = k2) && s1.same s2 && decide (p1 = p2)) := by
      unfold Op.equal
      show unSem Tryd.prog (Op.equalIn (9999 + 1) 31 _ _) = _
      rw [Op.equalIn]
      simp only [unSem_bind_eq, unSem_underlying Tryd.underlying31, Option.bind_some, unSem_program, hs]
      have a9' : isAggT Tryd.prog 9 = some false := by kernel_rfl
      have a3' : isAggT Tryd.prog 3 = some false := by kernel_rfl
      have q1 : unSem Tryd.prog (part 5 #[.int .u8 k1, .string ⟨⟨s1.toList⟩⟩, .int .i64 p1] 0) = some (.int .u8 k1) := unSem_part a5 rfl
      have q2 : unSem Tryd.prog (part 5 #[.int .u8 k2, .string ⟨⟨s2.toList⟩⟩, .int .i64 p2] 0) = some (.int .u8 k2) := unSem_part a5 rfl
      have q3 : unSem Tryd.prog (part 9 #[.int .u8 k1, .string ⟨⟨s1.toList⟩⟩, .int .i64 p1] 1) = some (.string ⟨⟨s1.toList⟩⟩) := unSem_part a9' rfl
      have q4 : unSem Tryd.prog (part 9 #[.int .u8 k2, .string ⟨⟨s2.toList⟩⟩, .int .i64 p2] 1) = some (.string ⟨⟨s2.toList⟩⟩) := unSem_part a9' rfl
      have q5 : unSem Tryd.prog (part 3 #[.int .u8 k1, .string ⟨⟨s1.toList⟩⟩, .int .i64 p1] 2) = some (.int .i64 p1) := unSem_part a3' rfl
      have q6 : unSem Tryd.prog (part 3 #[.int .u8 k2, .string ⟨⟨s2.toList⟩⟩, .int .i64 p2] 2) = some (.int .i64 p2) := unSem_part a3' rfl
      have e1 : unSem Tryd.prog (Op.equalIn 9999 5 (.int .u8 k1) (.int .u8 k2)) = some (k1 == k2) := eq_int (d := 9998) Tryd.underlying5
      have e2 : unSem Tryd.prog (Op.equalIn 9999 9 (.string ⟨⟨s1.toList⟩⟩) (.string ⟨⟨s2.toList⟩⟩)) = some (s1.same s2) := by rw [← bytes_beq]; exact eq_str (d := 9998) Tryd.underlying9
      have e3 : unSem Tryd.prog (Op.equalIn 9999 3 (.int .i64 p1) (.int .i64 p2)) = some (p1 == p2) := eq_int (d := 9998) Tryd.underlying3
      rw [if_neg (by decide)]
      simp only [List.forIn_toArray, List.forIn_cons, List.forIn_nil]
      have hn1 : ("Kind" ≠ "_") = True := by decide
      have hn2 : ("Text" ≠ "_") = True := by decide
      have hn3 : ("At" ≠ "_") = True := by decide
      simp only [unSem_bind_eq, hn1, hn2, hn3, if_true, q1, q2, q3, q4, q5, q6, e1, e2, e3, Option.bind_some]
      generalize g1 : (k1 == k2) = b1
      generalize g2 : s1.same s2 = b2
      generalize g3 : (p1 == p2) = b3
      have g1' : decide (k1 = k2) = b1 := by rw [← g1]; rfl
      have g3' : decide (p1 = p2) = b3 := by rw [← g3]; rfl
      rw [g1', g3']
      rw [g1] at e1
      rw [g2] at e2
      rw [g3] at e3
      cases b1 <;> cases b2 <;> cases b3 <;> simp [unSem_bind_eq, unSem_pure, q1, q2, q3, q4, q5, q6, e1, e2, e3]
    simp only [unSem_bind_eq, eqGuard, unSem_program, hg, Option.bind_some, binOp, h3]
    simp [unSem_bind_eq, unSem_program, hg, unSem_pure]
  have h4 := h2 _ _ rfl rfl
  show (match unSem Tryd.prog (do eqGuard .neq 31 (opK kk) (.tmp 0) (.agg #[.int .u8 k1, .string ⟨⟨s1.toList⟩⟩, .int .i64 p1]) (.agg #[.int .u8 k2, .string ⟨⟨s2.toList⟩⟩, .int .i64 p2]); binOp .neq 31 (.agg #[.int .u8 k1, .string ⟨⟨s1.toList⟩⟩, .int .i64 p1]) (.agg #[.int .u8 k2, .string ⟨⟨s2.toList⟩⟩, .int .i64 p2])) with
    | some v => toV 6 v
    | none => none) = _
  rw [h4]
  rfl
end Go.Vm
--  rw [show (fun l : List Value => (do eqGuard .neq 31 (opK kk) (.tmp 0) (l.getD 0 undef) (l.getD 1 undef); binOp .neq 31 (l.getD 0 undef) (l.getD 1 undef))) = _ from rfl]
