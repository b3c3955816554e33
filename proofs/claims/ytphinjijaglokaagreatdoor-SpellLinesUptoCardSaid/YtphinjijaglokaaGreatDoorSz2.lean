/- Facts: what a fact is; which are directories. -/
import Derived.Test.YtphinjijaglokaaGreatDoorSz1
namespace Go.Vm
open Go Go.Proofs Go.Pa
attribute [local simp] Oks J1 Jg Jh vop Ji Jp ev evs toV andThen inBlock Jf Fr.dsTo Fr.glTo Fr.toNone Jc Jd Je JZ Jb Jr Jj V.undef JG Qf Qw
inductive Row {α : Type} (f : α → List V) : V → List α → Prop
 | nils : Row f .nils []
 | sl (l : List α) (ex : Bool) : Row f (.sl l.length (l.flatMap f) ex) l
structure Fw where
 known : Bool
 kind : Nat
 nv : V
 names : List S
 kv : V
 kids : List Int
 rest : Int
 beside : Int
def sC (s : S) : List V := [.str s]
def iC (n : Int) : List V := [.int .i64 n]
structure Fw.ok (f : Fw) : Prop where
 kind : f.kind < 256
 names : Row sC f.nv f.names
 kids : Row iC f.kv f.kids
structure Fw.small (f : Fw) : Prop where
 names : f.names.length ≤ 60
 kids : f.kids.length ≤ 60
 text : ∀ s ∈ f.names, s.n ≤ 300
theorem z9 : J5 Tryz.prog 9 = some 1 := by kernel_rfl
theorem a9 : QM Tryz.prog 9 = some false := by kernel_rfl
theorem a3 : QM Tryz.prog 3 = some false := by kernel_rfl
theorem z4 : J5 Tryz.prog 4 = some 1 := by kernel_rfl
theorem a4 : QM Tryz.prog 4 = some false := by kernel_rfl
theorem z5 : J5 Tryz.prog 5 = some 1 := by kernel_rfl
theorem a5 : QM Tryz.prog 5 = some false := by kernel_rfl
theorem z23 : J5 Tryz.prog 22 = some 1 := by kernel_rfl
theorem a23 : QM Tryz.prog 22 = some false := by kernel_rfl
def Jnc (f : Fw) : Bool := f.known && decide (f.kind = 2)
variable [Memo] [NY]
end Go.Vm
namespace Go.Vm
open Go Go.Proofs Go.Pa
attribute [local simp] Oks J1 Jg Jh vop Ji Jp ev evs toV andThen inBlock Jf Fr.dsTo Fr.glTo Fr.toNone Jc Jd Je JZ Jb Jr Jj V.undef JG Qf Qw
def leS (a b : S) : Bool := a.less b || a.same b
def Jcd (l : List S) (i : Nat) : Bool := !JbW (l.getD i ⟨0, 0⟩) || (decide (0 < i) && leS (l.getD i ⟨0, 0⟩) (l.getD (i - 1) ⟨0, 0⟩))
def Jep (l : List S) (i : Nat) : Prop := ∀ j, j < i → Jcd l j = false
def Q7 (l : List S) : Bool := (List.range l.length).all fun i => !Jcd l i
theorem JjR {l : List S} {i : Nat} (h : Jep l i) (hi : l.length ≤ i) : Q7 l = true := by
 unfold Q7
 rw [List.all_eq_true]
 intro j hj
 rw [h j (by have := List.mem_range.1 hj; omega)]; rfl
theorem JkQ {l : List S} {i : Nat} (hi : i < l.length) (h : Jcd l i = true) : Q7 l = false := by
 unfold Q7
 rw [Bool.eq_false_iff]
 intro hc
 rw [List.all_eq_true] at hc
 have := hc i (List.mem_range.2 hi)
 rw [h] at this; cases this
theorem Jiu {l : List S} {i : Nat} (h : Jep l i) (hb : Jcd l i = false) : Jep l (i + 1) := fun j hj => by
 by_cases he : j = i
 ·subst he; exact hb
 ·exact h j (by omega)
def Jnd (f : Fw) : Bool := decide (f.kind ≤ 3) && !(!f.known && !decide (f.kind = 0)) && decide (f.names.length = f.kids.length)
def Jne (f : Fw) : Bool := decide (f.names.length = 0) && decide (f.rest = 0) && decide (f.beside = 0)
def Jnf (f : Fw) : Bool := cond (decide (f.rest = 2)) (decide (0 ≤ f.beside) && decide (f.beside ≤ (f.names.length : Int))) ((decide (f.rest = 0) || decide (f.rest = 1)) && decide (f.beside = 0))
def JnC (f : Fw) : Bool := cond (Jnd f) (cond (Jnc f) (Q7 f.names && Jnf f) (Jne f)) false
variable [Memo] [NY]
end Go.Vm
namespace Go.Vm
open Go Go.Proofs Go.Pa
attribute [local simp] Oks J1 Jg Jh vop Ji Jp ev evs toV andThen inBlock Jf Fr.dsTo Fr.glTo Fr.toNone Jc Jd Je JZ Jb Jr Jj V.undef JG Qf Qw
variable [Memo] [NY]
end Go.Vm
namespace Go.Vm
open Go Go.Proofs Go.Pa
attribute [local simp] Oks J1 Jg Jh vop Ji Jp ev evs toV andThen inBlock Jf Fr.dsTo Fr.glTo Fr.toNone Jc Jd Je JZ Jb Jr Jj V.undef JG Qf Qw
variable [Memo] [NY]
end Go.Vm
namespace Go.Vm
open Go Go.Proofs Go.Pa
attribute [local simp] Oks J1 Jg Jh vop Ji Jp ev evs toV andThen inBlock Jf Fr.dsTo Fr.glTo Fr.toNone Jc Jd Je JZ Jb Jr Jj V.undef JG Qf Qw
structure Ns (st : St) (x : V) (l : List Int) : Prop where
 len : QE Tryz.prog 191 x = some (.int .i64 (l.length : Int))
 get : ∀ (j : Nat) (h : j < l.length), ∃ a, (∀ k, Jm Tryz.prog 191 x (.int k (j : Int)) = some a) ∧ Qj Tryz.prog st 3 a = some (.int .i64 l[j])
variable [Memo] [NY]
end Go.Vm
namespace Go.Vm
open Go Go.Proofs Go.Pa
attribute [local simp] Oks J1 Jg Jh vop Ji Jp ev evs toV andThen inBlock Jf Fr.dsTo Fr.glTo Fr.toNone Jc Jd Je JZ Jb Jr Jj V.undef JG Qf Qw
def Jng (l : List Fw) : List Int := l.flatMap Fw.kids
def JlS : List Fw → Bool
 | [] => false
 | f :: _ => Jnc f
variable [Memo] [NY]
end Go.Vm
namespace Go.Vm
open Go Go.Proofs Go.Pa
attribute [local simp] Oks J1 Jg Jh vop Ji Jp ev evs toV andThen inBlock Jf Fr.dsTo Fr.glTo Fr.toNone Jc Jd Je JZ Jb Jr Jj V.undef JG Qf Qw
variable [Memo] [NY]
end Go.Vm
namespace Go.Vm
open Go Go.Proofs Go.Pa
attribute [local simp] Oks J1 Jg Jh vop Ji Jp ev evs toV andThen inBlock Jf Fr.dsTo Fr.glTo Fr.toNone Jc Jd Je JZ Jb Jr Jj V.undef JG Qf Qw
variable [Memo] [NY]
end Go.Vm
namespace Go.Vm
open Go Go.Proofs Go.Pa
attribute [local simp] Oks J1 Jg Jh vop Ji Jp ev evs toV andThen inBlock Jf Fr.dsTo Fr.glTo Fr.toNone Jc Jd Je JZ Jb Jr Jj V.undef JG Qf Qw
def Ja9 {α : Type} (p : α → α → Bool) : List α → List α → Bool
 | [], [] => true
 | a :: l, b :: m => p a b && Ja9 p l m
 | _, _ => false
theorem Je0 {α : Type} {p : α → α → Bool} : ∀ {l m : List α}, ¬ l.length = m.length → Ja9 p l m = false
 | [], [], h => absurd rfl h
 | [], b :: m, _ => rfl
 | a :: l, [], _ => rfl
 | a :: l, b :: m, h => by rw [Ja9, Je0 (fun e => h (by simp [e])), Bool.and_false]
def Jf6 {α : Type} (p : α → α → Bool) (l m : List α) (i : Nat) : Prop := ∀ j (h : j < l.length) (h' : j < m.length), j < i → p l[j] m[j] = true
theorem Je1 {α : Type} (p : α → α → Bool) (l m : List α) : Jf6 p l m 0 := fun j _ _ h => absurd h (Nat.not_lt_zero j)
theorem Je2 {α : Type} {p : α → α → Bool} {l m : List α} {i : Nat} (h : Jf6 p l m i) (hi : i < l.length) (hi' : i < m.length) (hb : p l[i] m[i] = true) : Jf6 p l m (i + 1) := fun j hj hj' h1 => by
 by_cases he : j = i
 ·subst he; exact hb
 ·exact h j hj hj' (by omega)
theorem JdH {α : Type} {p : α → α → Bool} : ∀ {l m : List α} {i : Nat}, l.length = m.length → Jf6 p l m i → l.length ≤ i → Ja9 p l m = true
 | [], [], _, _, _, _ => rfl
 | a :: l, b :: m, i, hl, h, hi => by
  rw [Ja9, show p a b = true from h 0 (by simp) (by simp) (by simp at hi; omega), Bool.true_and]
  exact JdH (i := i - 1) (by simpa using hl) (fun j hj hj' h1 => h (j + 1) (by simpa using hj) (by simpa using hj') (by omega)) (by simp at hi; omega)
theorem Je3 {α : Type} {p : α → α → Bool} : ∀ {l m : List α} {i : Nat} (hi : i < l.length) (hi' : i < m.length), p l[i] m[i] = false → Ja9 p l m = false
 | a :: l, b :: m, 0, _, _, h => by rw [Ja9, show p a b = false from h, Bool.false_and]
 | a :: l, b :: m, i + 1, hi, hi', h => by
  rw [Ja9, Je3 (by simpa using hi) (by simpa using hi') (by simpa using h), Bool.and_false]
variable [Memo] [NY]
end Go.Vm
namespace Go.Vm
open Go Go.Proofs Go.Pa
attribute [local simp] Oks J1 Jg Jh vop Ji Jp ev evs toV andThen inBlock Jf Fr.dsTo Fr.glTo Fr.toNone Jc Jd Je JZ Jb Jr Jj V.undef JG Qf Qw
theorem Row.vw {x : V} {l : List S} (h : Row sC x l) (st : St) : Vw st x l := by
 cases h with
 | nils => exact .nils
 | sl l ex =>
  have : l.flatMap sC = l.map .str := by
   induction l with
   | nil => rfl
   | cons a l ih => rw [List.flatMap_cons, ih]; rfl
  rw [this]
  exact .sl l ex
variable [Memo] [NY]
end Go.Vm
namespace Go.Vm
open Go Go.Proofs Go.Pa
attribute [local simp] Oks J1 Jg Jh vop Ji Jp ev evs toV andThen inBlock Jf Fr.dsTo Fr.glTo Fr.toNone Jc Jd Je JZ Jb Jr Jj V.undef JG Qf Qw
variable [Memo] [NY]
end Go.Vm
namespace Go.Vm
open Go Go.Proofs Go.Pa
attribute [local simp] Oks J1 Jg Jh vop Ji Jp ev evs toV andThen inBlock Jf Fr.dsTo Fr.glTo Fr.toNone Jc Jd Je JZ Jb Jr Jj V.undef JG Qf Qw
variable [Memo] [NY]
end Go.Vm
namespace Go.Vm
open Go Go.Proofs Go.Pa
theorem JkX : ∀ l : List UInt8, Op.bytesLess l l = false
 | [] => rfl
 | a :: l => by
  rw [Op.bytesLess, JkX l, Bool.and_false, Bool.or_false]
  simp
theorem Jhv : ∀ a b : List UInt8, Op.bytesLess a b = false → Op.bytesLess b a = false → a = b
 | [], [], _, _ => rfl
 | [], b :: y, h, _ => by cases h
 | a :: x, [], _, h => by cases h
 | a :: x, b :: y, h, k => by
  rw [Op.bytesLess, Bool.or_eq_false_iff] at h k
  have h1 : ¬ a < b := by simpa using h.1
  have k1 : ¬ b < a := by simpa using k.1
  have he : a = b := by
   apply UInt8.toNat_inj.1
   rw [UInt8.lt_iff_toNat_lt] at h1 k1
   omega
  subst he
  have h2 : Op.bytesLess x y = false := by simpa using h.2
  have k2 : Op.bytesLess y x = false := by simpa using k.2
  rw [Jhv x y h2 k2]
theorem Jhw : ∀ a b c : List UInt8, Op.bytesLess a b = true → Op.bytesLess b c = true → Op.bytesLess a c = true
 | [], [], _, h, _ => by cases h
 | _ :: _, [], _, h, _ => by cases h
 | _, _ :: _, [], _, k => by cases k
 | [], _ :: _, _ :: _, _, _ => rfl
 | a :: x, b :: y, c :: z, h, k => by
  rw [Op.bytesLess, Bool.or_eq_true, Bool.and_eq_true] at h k ⊢
  simp only [decide_eq_true_eq, beq_iff_eq, UInt8.lt_iff_toNat_lt] at h k ⊢
  rcases h with h | ⟨rfl, h⟩
  ·rcases k with k | ⟨rfl, k⟩
   ·exact .inl (by omega)
   ·exact .inl h
  ·rcases k with k | ⟨rfl, k⟩
   ·exact .inl k
   ·exact .inr ⟨rfl, Jhw x y z h k⟩
theorem Jiz {a b c : S} (h : a.less b = true) (k : b.less c = true) : a.less c = true := by
 rw [S.less_eq] at *; exact Jhw _ _ _ h k
theorem JiA {a b : S} (h : a.less b = false) (k : b.less a = false) : a.same b = true := by
 rw [S.less_eq] at h k
 rw [S.same_eq, Jhv _ _ h k]; simp
theorem Jbw {a b : S} (h : a.same b = true) : a.toList = b.toList := by rw [S.same_eq] at h; simpa using h
theorem Jfz {a b : S} (h : a.less b = true) : a.same b = false := by
 cases k : a.same b with
 | false => rfl
 | true =>
  rw [S.less_eq, Jbw k, JkX] at h; cases h
def JkY (l : List S) : Prop := ∀ i j (hj : j < l.length) (hij : i < j), (l[i]'(by omega)).less l[j] = true
theorem Jf7 {l : List S} (h : Q7 l = true) : JkY l := by
 have hstep : ∀ i (hi : i + 1 < l.length), l[i].less l[i + 1] = true := fun i hi => by
  unfold Q7 at h
  rw [List.all_eq_true] at h
  have := h (i + 1) (List.mem_range.2 hi)
  unfold Jcd at this
  rw [List.getD_eq_getElem?_getD, List.getElem?_eq_getElem hi, List.getD_eq_getElem?_getD, List.getElem?_eq_getElem (by omega : i + 1 - 1 < l.length)] at this
  simp only [Option.getD_some, Nat.add_sub_cancel, leS] at this
  rw [Bool.not_eq_true', Bool.or_eq_false_iff, Bool.and_eq_false_iff] at this
  have h2 : (l[i + 1].less l[i] || l[i + 1].same l[i]) = false := this.2.resolve_left (by simp)
  rw [Bool.or_eq_false_iff] at h2
  cases hl : l[i].less l[i + 1] with
  | true => rfl
  | false =>
   have h3 := JiA h2.1 hl
   rw [h2.2] at h3; cases h3
 intro i j hj hij
 induction j with
 | zero => omega
 | succ j ih =>
  by_cases he : i = j
  ·subst he; exact hstep i hj
  ·exact Jiz (ih (by omega) (by omega)) (hstep j hj)
end Go.Vm
namespace Go.Vm
open Go Go.Proofs Go.Pa
attribute [local simp] Oks J1 Jg Jh vop Ji Jp ev evs toV andThen inBlock Jf Fr.dsTo Fr.glTo Fr.toNone Jc Jd Je JZ Jb Jr Jj V.undef JG Qf Qw
variable [Memo] [NY]
end Go.Vm
