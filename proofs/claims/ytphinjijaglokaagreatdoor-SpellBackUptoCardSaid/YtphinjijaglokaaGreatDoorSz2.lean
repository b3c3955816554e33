/- Facts: what a fact is; which are directories. -/
import Derived.Test.YtphinjijaglokaaGreatDoorSz1
namespace Go.Vm
open Go Go.Proofs Go.Pa
attribute [local simp] Oks Qd Je Jj vop Jk Jr ev evs toV andThen inBlock Ji Fr.dsTo Fr.glTo Fr.toNone Jf Jg Jh J9 Jc Jy Jn V.undef JP Qq QC
inductive Row {α : Type} (f : α → List V) : V → List α → Prop
 | nils : Row f .nils []
 | sl (l : List α) (ex : Bool) : Row f (.sl l.length (l.flatMap f) ex) l
structure Fw where
 known : Bool
 kind : Nat
 nv : V
 names : List S
 kv : V
 kids : List Int
 rest : Int
 beside : Int
def sC (s : S) : List V := [.str s]
def iC (n : Int) : List V := [.int .i64 n]
structure Fw.ok (f : Fw) : Prop where
 kind : f.kind < 256
 names : Row sC f.nv f.names
 kids : Row iC f.kv f.kids
structure Fw.small (f : Fw) : Prop where
 names : f.names.length ≤ 60
 kids : f.kids.length ≤ 60
 text : ∀ s ∈ f.names, s.n ≤ 300
theorem z9 : Qc Tryz.prog 9 = some 1 := by kernel_rfl
theorem a9 : QS Tryz.prog 9 = some false := by kernel_rfl
theorem z3 : Qc Tryz.prog 3 = some 1 := by kernel_rfl
theorem a3 : QS Tryz.prog 3 = some false := by kernel_rfl
theorem z4 : Qc Tryz.prog 4 = some 1 := by kernel_rfl
theorem a4 : QS Tryz.prog 4 = some false := by kernel_rfl
theorem z5 : Qc Tryz.prog 5 = some 1 := by kernel_rfl
theorem a5 : QS Tryz.prog 5 = some false := by kernel_rfl
theorem z23 : Qc Tryz.prog 22 = some 1 := by kernel_rfl
theorem a23 : QS Tryz.prog 22 = some false := by kernel_rfl
def Jmp (f : Fw) : Bool := f.known && decide (f.kind = 2)
variable [Memo] [NY]
end Go.Vm
namespace Go.Vm
open Go Go.Proofs Go.Pa
attribute [local simp] Oks Qd Je Jj vop Jk Jr ev evs toV andThen inBlock Ji Fr.dsTo Fr.glTo Fr.toNone Jf Jg Jh J9 Jc Jy Jn V.undef JP Qq QC
def leS (a b : S) : Bool := a.less b || a.same b
def JdL (l : List S) (i : Nat) : Bool := !Jca (l.getD i ⟨0, 0⟩) || (decide (0 < i) && leS (l.getD i ⟨0, 0⟩) (l.getD (i - 1) ⟨0, 0⟩))
def Jd2 (l : List S) (i : Nat) : Prop := ∀ j, j < i → JdL l j = false
def JaM (l : List S) : Bool := (List.range l.length).all fun i => !JdL l i
theorem Ji3 {l : List S} {i : Nat} (h : Jd2 l i) (hi : l.length ≤ i) : JaM l = true := by
 unfold JaM
 rw [List.all_eq_true]
 intro j hj
 rw [h j (by have := List.mem_range.1 hj; omega)]; rfl
theorem Jj1 {l : List S} {i : Nat} (hi : i < l.length) (h : JdL l i = true) : JaM l = false := by
 unfold JaM
 rw [Bool.eq_false_iff]
 intro hc
 rw [List.all_eq_true] at hc
 have := hc i (List.mem_range.2 hi)
 rw [h] at this; cases this
theorem JhH {l : List S} {i : Nat} (h : Jd2 l i) (hb : JdL l i = false) : Jd2 l (i + 1) := fun j hj => by
 by_cases he : j = i
 ·subst he; exact hb
 ·exact h j (by omega)
def Jmq (f : Fw) : Bool := decide (f.kind ≤ 3) && !(!f.known && !decide (f.kind = 0)) && decide (f.names.length = f.kids.length)
def Jmr (f : Fw) : Bool := decide (f.names.length = 0) && decide (f.rest = 0) && decide (f.beside = 0)
def Jms (f : Fw) : Bool := cond (decide (f.rest = 2)) (decide (0 ≤ f.beside) && decide (f.beside ≤ (f.names.length : Int))) ((decide (f.rest = 0) || decide (f.rest = 1)) && decide (f.beside = 0))
def JmT (f : Fw) : Bool := cond (Jmq f) (cond (Jmp f) (JaM f.names && Jms f) (Jmr f)) false
variable [Memo] [NY]
end Go.Vm
namespace Go.Vm
open Go Go.Proofs Go.Pa
attribute [local simp] Oks Qd Je Jj vop Jk Jr ev evs toV andThen inBlock Ji Fr.dsTo Fr.glTo Fr.toNone Jf Jg Jh J9 Jc Jy Jn V.undef JP Qq QC
variable [Memo] [NY]
end Go.Vm
namespace Go.Vm
open Go Go.Proofs Go.Pa
attribute [local simp] Oks Qd Je Jj vop Jk Jr ev evs toV andThen inBlock Ji Fr.dsTo Fr.glTo Fr.toNone Jf Jg Jh J9 Jc Jy Jn V.undef JP Qq QC
variable [Memo] [NY]
end Go.Vm
namespace Go.Vm
open Go Go.Proofs Go.Pa
attribute [local simp] Oks Qd Je Jj vop Jk Jr ev evs toV andThen inBlock Ji Fr.dsTo Fr.glTo Fr.toNone Jf Jg Jh J9 Jc Jy Jn V.undef JP Qq QC
structure Ns (st : St) (x : V) (l : List Int) : Prop where
 len : JaS Tryz.prog 191 x = some (.int .i64 (l.length : Int))
 get : ∀ (j : Nat) (h : j < l.length), ∃ a, (∀ k, Jv Tryz.prog 191 x (.int k (j : Int)) = some a) ∧ Qo Tryz.prog st 3 a = some (.int .i64 l[j])
variable [Memo] [NY]
end Go.Vm
namespace Go.Vm
open Go Go.Proofs Go.Pa
attribute [local simp] Oks Qd Je Jj vop Jk Jr ev evs toV andThen inBlock Ji Fr.dsTo Fr.glTo Fr.toNone Jf Jg Jh J9 Jc Jy Jn V.undef JP Qq QC
def Jmt (l : List Fw) : List Int := l.flatMap Fw.kids
def Jk8 : List Fw → Bool
 | [] => false
 | f :: _ => Jmp f
variable [Memo] [NY]
end Go.Vm
namespace Go.Vm
open Go Go.Proofs Go.Pa
attribute [local simp] Oks Qd Je Jj vop Jk Jr ev evs toV andThen inBlock Ji Fr.dsTo Fr.glTo Fr.toNone Jf Jg Jh J9 Jc Jy Jn V.undef JP Qq QC
variable [Memo] [NY]
end Go.Vm
namespace Go.Vm
open Go Go.Proofs Go.Pa
attribute [local simp] Oks Qd Je Jj vop Jk Jr ev evs toV andThen inBlock Ji Fr.dsTo Fr.glTo Fr.toNone Jf Jg Jh J9 Jc Jy Jn V.undef JP Qq QC
variable [Memo] [NY]
end Go.Vm
namespace Go.Vm
open Go Go.Proofs Go.Pa
attribute [local simp] Oks Qd Je Jj vop Jk Jr ev evs toV andThen inBlock Ji Fr.dsTo Fr.glTo Fr.toNone Jf Jg Jh J9 Jc Jy Jn V.undef JP Qq QC
def JaX {α : Type} (p : α → α → Bool) : List α → List α → Bool
 | [], [] => true
 | a :: l, b :: m => p a b && JaX p l m
 | _, _ => false
theorem Jez {α : Type} {p : α → α → Bool} : ∀ {l m : List α}, ¬ l.length = m.length → JaX p l m = false
 | [], [], h => absurd rfl h
 | [], b :: m, _ => rfl
 | a :: l, [], _ => rfl
 | a :: l, b :: m, h => by rw [JaX, Jez (fun e => h (by simp [e])), Bool.and_false]
def Jfq {α : Type} (p : α → α → Bool) (l m : List α) (i : Nat) : Prop := ∀ j (h : j < l.length) (h' : j < m.length), j < i → p l[j] m[j] = true
theorem JeA {α : Type} (p : α → α → Bool) (l m : List α) : Jfq p l m 0 := fun j _ _ h => absurd h (Nat.not_lt_zero j)
theorem JeB {α : Type} {p : α → α → Bool} {l m : List α} {i : Nat} (h : Jfq p l m i) (hi : i < l.length) (hi' : i < m.length) (hb : p l[i] m[i] = true) : Jfq p l m (i + 1) := fun j hj hj' h1 => by
 by_cases he : j = i
 ·subst he; exact hb
 ·exact h j hj hj' (by omega)
theorem Jdn {α : Type} {p : α → α → Bool} : ∀ {l m : List α} {i : Nat}, l.length = m.length → Jfq p l m i → l.length ≤ i → JaX p l m = true
 | [], [], _, _, _, _ => rfl
 | a :: l, b :: m, i, hl, h, hi => by
  rw [JaX, show p a b = true from h 0 (by simp) (by simp) (by simp at hi; omega), Bool.true_and]
  exact Jdn (i := i - 1) (by simpa using hl) (fun j hj hj' h1 => h (j + 1) (by simpa using hj) (by simpa using hj') (by omega)) (by simp at hi; omega)
theorem JeC {α : Type} {p : α → α → Bool} : ∀ {l m : List α} {i : Nat} (hi : i < l.length) (hi' : i < m.length), p l[i] m[i] = false → JaX p l m = false
 | a :: l, b :: m, 0, _, _, h => by rw [JaX, show p a b = false from h, Bool.false_and]
 | a :: l, b :: m, i + 1, hi, hi', h => by
  rw [JaX, JeC (by simpa using hi) (by simpa using hi') (by simpa using h), Bool.and_false]
variable [Memo] [NY]
end Go.Vm
namespace Go.Vm
open Go Go.Proofs Go.Pa
attribute [local simp] Oks Qd Je Jj vop Jk Jr ev evs toV andThen inBlock Ji Fr.dsTo Fr.glTo Fr.toNone Jf Jg Jh J9 Jc Jy Jn V.undef JP Qq QC
theorem Row.vw {x : V} {l : List S} (h : Row sC x l) (st : St) : Vw st x l := by
 cases h with
 | nils => exact .nils
 | sl l ex =>
  have : l.flatMap sC = l.map .str := by
   induction l with
   | nil => rfl
   | cons a l ih => rw [List.flatMap_cons, ih]; rfl
  rw [this]
  exact .sl l ex
variable [Memo] [NY]
end Go.Vm
namespace Go.Vm
open Go Go.Proofs Go.Pa
attribute [local simp] Oks Qd Je Jj vop Jk Jr ev evs toV andThen inBlock Ji Fr.dsTo Fr.glTo Fr.toNone Jf Jg Jh J9 Jc Jy Jn V.undef JP Qq QC
variable [Memo] [NY]
end Go.Vm
namespace Go.Vm
open Go Go.Proofs Go.Pa
attribute [local simp] Oks Qd Je Jj vop Jk Jr ev evs toV andThen inBlock Ji Fr.dsTo Fr.glTo Fr.toNone Jf Jg Jh J9 Jc Jy Jn V.undef JP Qq QC
variable [Memo] [NY]
end Go.Vm
namespace Go.Vm
open Go Go.Proofs Go.Pa
end Go.Vm
namespace Go.Vm
open Go Go.Proofs Go.Pa
attribute [local simp] Oks Qd Je Jj vop Jk Jr ev evs toV andThen inBlock Ji Fr.dsTo Fr.glTo Fr.toNone Jf Jg Jh J9 Jc Jy Jn V.undef JP Qq QC
set_option maxRecDepth 100000 in
theorem JgL {st : St} {n : Nat} (hn : n < 1000000) : QA Tryz.prog st 3 123 (.int .i64 (n : Int)) = some (.int .u64 (n : Int)) := by
 have h : QA Tryz.prog st 3 123 (.int .i64 (n : Int)) = Qw Tryz.prog (fun l => convert 3 123 (l.getD 0 undef)) [.int .i64 (n : Int)] := by
  simp only [QA, Tryz.underlying3, Tryz.underlying123]
 rw [h]
 simp only [Qw, Jc, ofV]
 have h2 : QF Tryz.prog (convert 3 123 (.int .i64 (n : Int))) = some (.int .u64 (IntKind.u64.wrap (n : Int))) := by
  simp only [convert, Jax, Qy Tryz.underlying3, Qy Tryz.underlying123, Option.bind_some]
  rfl
 have h3 : IntKind.u64.wrap (n : Int) = (n : Int) := by
  simp [IntKind.wrap, IntKind.bits, IntKind.signed]
  omega
 show (match QF Tryz.prog (convert 3 123 (.int .i64 (n : Int))) with
  | some v => toV 6 v
  | none => none) = _
 rw [h2, h3]
 rfl
variable [Memo] [NY]
end Go.Vm
