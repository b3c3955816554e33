/- Facts: what a fact is; which are directories. -/
import Derived.Test.YtphinjijaglokaaGreatDoorSz1
namespace Go.Vm
open Go Go.Proofs Go.Pa
attribute [local simp] Oks Qr Jm Jq vop Js JB ev evs toV andThen inBlock Jl Fr.dsTo Fr.glTo Fr.toNone Ji Jj Jk Qk Jd JD Jv V.undef JW QM Q9
inductive Row {α : Type} (f : α → List V) : V → List α → Prop
 | nils : Row f .nils []
 | sl (l : List α) (ex : Bool) : Row f (.sl l.length (l.flatMap f) ex) l
structure Fw where
 known : Bool
 kind : Nat
 nv : V
 names : List S
 kv : V
 kids : List Int
 rest : Int
 beside : Int
def sC (s : S) : List V := [.str s]
def iC (n : Int) : List V := [.int .i64 n]
structure Fw.ok (f : Fw) : Prop where
 kind : f.kind < 256
 names : Row sC f.nv f.names
 kids : Row iC f.kv f.kids
structure Fw.small (f : Fw) : Prop where
 names : f.names.length ≤ 60
 kids : f.kids.length ≤ 60
 text : ∀ s ∈ f.names, s.n ≤ 300
theorem z9 : Qj Tryz.prog 9 = some 1 := by kernel_rfl
theorem a9 : Jag Tryz.prog 9 = some false := by kernel_rfl
theorem z3 : Qj Tryz.prog 3 = some 1 := by kernel_rfl
theorem a3 : Jag Tryz.prog 3 = some false := by kernel_rfl
theorem z4 : Qj Tryz.prog 4 = some 1 := by kernel_rfl
theorem a4 : Jag Tryz.prog 4 = some false := by kernel_rfl
theorem z5 : Qj Tryz.prog 5 = some 1 := by kernel_rfl
theorem a5 : Jag Tryz.prog 5 = some false := by kernel_rfl
theorem z23 : Qj Tryz.prog 22 = some 1 := by kernel_rfl
theorem a23 : Jag Tryz.prog 22 = some false := by kernel_rfl
def Jpt (f : Fw) : Bool := f.known && decide (f.kind = 2)
variable [Memo] [NY]
end Go.Vm
namespace Go.Vm
open Go Go.Proofs Go.Pa
attribute [local simp] Oks Qr Jm Jq vop Js JB ev evs toV andThen inBlock Jl Fr.dsTo Fr.glTo Fr.toNone Ji Jj Jk Qk Jd JD Jv V.undef JW QM Q9
def leS (a b : S) : Bool := a.less b || a.same b
def Jdu (l : List S) (i : Nat) : Bool := !Jbt (l.getD i ⟨0, 0⟩) || (decide (0 < i) && leS (l.getD i ⟨0, 0⟩) (l.getD (i - 1) ⟨0, 0⟩))
def Jd8 (l : List S) (i : Nat) : Prop := ∀ j, j < i → Jdu l j = false
def Jaz (l : List S) : Bool := (List.range l.length).all fun i => !Jdu l i
theorem Jg7 {l : List S} {i : Nat} (h : Jd8 l i) (hi : l.length ≤ i) : Jaz l = true := by
 unfold Jaz
 rw [List.all_eq_true]
 intro j hj
 rw [h j (by have := List.mem_range.1 hj; omega)]; rfl
theorem Jf2 {l : List S} {i : Nat} (hi : i < l.length) (h : Jdu l i = true) : Jaz l = false := by
 unfold Jaz
 rw [Bool.eq_false_iff]
 intro hc
 rw [List.all_eq_true] at hc
 have := hc i (List.mem_range.2 hi)
 rw [h] at this; cases this
theorem JdH {l : List S} {i : Nat} (h : Jd8 l i) (hb : Jdu l i = false) : Jd8 l (i + 1) := fun j hj => by
 by_cases he : j = i
 ·subst he; exact hb
 ·exact h j (by omega)
def Jpu (f : Fw) : Bool := decide (f.kind ≤ 3) && !(!f.known && !decide (f.kind = 0)) && decide (f.names.length = f.kids.length)
def Jpv (f : Fw) : Bool := decide (f.names.length = 0) && decide (f.rest = 0) && decide (f.beside = 0)
def Jpw (f : Fw) : Bool := cond (decide (f.rest = 2)) (decide (0 ≤ f.beside) && decide (f.beside ≤ (f.names.length : Int))) ((decide (f.rest = 0) || decide (f.rest = 1)) && decide (f.beside = 0))
def JpX (f : Fw) : Bool := cond (Jpu f) (cond (Jpt f) (Jaz f.names && Jpw f) (Jpv f)) false
variable [Memo] [NY]
end Go.Vm
namespace Go.Vm
open Go Go.Proofs Go.Pa
attribute [local simp] Oks Qr Jm Jq vop Js JB ev evs toV andThen inBlock Jl Fr.dsTo Fr.glTo Fr.toNone Ji Jj Jk Qk Jd JD Jv V.undef JW QM Q9
variable [Memo] [NY]
end Go.Vm
namespace Go.Vm
open Go Go.Proofs Go.Pa
attribute [local simp] Oks Qr Jm Jq vop Js JB ev evs toV andThen inBlock Jl Fr.dsTo Fr.glTo Fr.toNone Ji Jj Jk Qk Jd JD Jv V.undef JW QM Q9
variable [Memo] [NY]
end Go.Vm
namespace Go.Vm
open Go Go.Proofs Go.Pa
attribute [local simp] Oks Qr Jm Jq vop Js JB ev evs toV andThen inBlock Jl Fr.dsTo Fr.glTo Fr.toNone Ji Jj Jk Qk Jd JD Jv V.undef JW QM Q9
structure Ns (st : St) (x : V) (l : List Int) : Prop where
 len : Jab Tryz.prog 191 x = some (.int .i64 (l.length : Int))
 get : ∀ (j : Nat) (h : j < l.length), ∃ a, (∀ k, Jo Tryz.prog 191 x (.int k (j : Int)) = some a) ∧ Qe Tryz.prog st 3 a = some (.int .i64 l[j])
variable [Memo] [NY]
end Go.Vm
namespace Go.Vm
open Go Go.Proofs Go.Pa
attribute [local simp] Oks Qr Jm Jq vop Js JB ev evs toV andThen inBlock Jl Fr.dsTo Fr.glTo Fr.toNone Ji Jj Jk Qk Jd JD Jv V.undef JW QM Q9
def Jpx (l : List Fw) : List Int := l.flatMap Fw.kids
def JnN : List Fw → Bool
 | [] => false
 | f :: _ => Jpt f
variable [Memo] [NY]
end Go.Vm
namespace Go.Vm
open Go Go.Proofs Go.Pa
attribute [local simp] Oks Qr Jm Jq vop Js JB ev evs toV andThen inBlock Jl Fr.dsTo Fr.glTo Fr.toNone Ji Jj Jk Qk Jd JD Jv V.undef JW QM Q9
variable [Memo] [NY]
end Go.Vm
namespace Go.Vm
open Go Go.Proofs Go.Pa
attribute [local simp] Oks Qr Jm Jq vop Js JB ev evs toV andThen inBlock Jl Fr.dsTo Fr.glTo Fr.toNone Ji Jj Jk Qk Jd JD Jv V.undef JW QM Q9
variable [Memo] [NY]
end Go.Vm
namespace Go.Vm
open Go Go.Proofs Go.Pa
attribute [local simp] Oks Qr Jm Jq vop Js JB ev evs toV andThen inBlock Jl Fr.dsTo Fr.glTo Fr.toNone Ji Jj Jk Qk Jd JD Jv V.undef JW QM Q9
def Jbi {α : Type} (p : α → α → Bool) : List α → List α → Bool
 | [], [] => true
 | a :: l, b :: m => p a b && Jbi p l m
 | _, _ => false
theorem Jec {α : Type} {p : α → α → Bool} : ∀ {l m : List α}, ¬ l.length = m.length → Jbi p l m = false
 | [], [], h => absurd rfl h
 | [], b :: m, _ => rfl
 | a :: l, [], _ => rfl
 | a :: l, b :: m, h => by rw [Jbi, Jec (fun e => h (by simp [e])), Bool.and_false]
def Jga {α : Type} (p : α → α → Bool) (l m : List α) (i : Nat) : Prop := ∀ j (h : j < l.length) (h' : j < m.length), j < i → p l[j] m[j] = true
theorem JdI {α : Type} (p : α → α → Bool) (l m : List α) : Jga p l m 0 := fun j _ _ h => absurd h (Nat.not_lt_zero j)
theorem JdJ {α : Type} {p : α → α → Bool} {l m : List α} {i : Nat} (h : Jga p l m i) (hi : i < l.length) (hi' : i < m.length) (hb : p l[i] m[i] = true) : Jga p l m (i + 1) := fun j hj hj' h1 => by
 by_cases he : j = i
 ·subst he; exact hb
 ·exact h j hj hj' (by omega)
theorem Jdh {α : Type} {p : α → α → Bool} : ∀ {l m : List α} {i : Nat}, l.length = m.length → Jga p l m i → l.length ≤ i → Jbi p l m = true
 | [], [], _, _, _, _ => rfl
 | a :: l, b :: m, i, hl, h, hi => by
  rw [Jbi, show p a b = true from h 0 (by simp) (by simp) (by simp at hi; omega), Bool.true_and]
  exact Jdh (i := i - 1) (by simpa using hl) (fun j hj hj' h1 => h (j + 1) (by simpa using hj) (by simpa using hj') (by omega)) (by simp at hi; omega)
theorem Jed {α : Type} {p : α → α → Bool} : ∀ {l m : List α} {i : Nat} (hi : i < l.length) (hi' : i < m.length), p l[i] m[i] = false → Jbi p l m = false
 | a :: l, b :: m, 0, _, _, h => by rw [Jbi, show p a b = false from h, Bool.false_and]
 | a :: l, b :: m, i + 1, hi, hi', h => by
  rw [Jbi, Jed (by simpa using hi) (by simpa using hi') (by simpa using h), Bool.and_false]
def EqQ (st : St) (k : Nat) (A : Bool) (e : AE) (fr' : Fr) (st' : St) : Prop := Keep st st' ∧ fr'.ds = [] ∧ ((e = AE.ret ∧ Fr.at fr' k = .bool false ∧ A = false) ∨ (e = AE.normal ∧ A = true))
variable [Memo] [NY]
set_option maxRecDepth 100000 in
theorem Jmu (gl : Gl) (st : St) (x y : V) (a b : List S) (hx : Vw st x a) (hy : Vw st y b) (hlen : a.length = b.length) (hl : a.length < 1000000) :
  ∃ v st', W Tryz.prog (.call gl 31 [x, y]) st = .call (.val v st') ∧ v = .bool (Jbi S.same a b) ∧ Keep st st' := by
 have lx := hx.len Tryz.underlying22
 have ly := hy.len Tryz.underlying22
 refine Jcf (NY.no _ rfl rfl rfl _ _) Tryz.func31 rfl (by kernel_rfl) ?_
 repeat refine Does.seq ?_
 refine Does.region ?_
 simp
 repeat refine Does.seq ?_
 refine Does.region ?_
 have eg : ∀ kk, Jn Tryz.prog kk .gtr 3 (.int .i64 (a.length : Int)) (.int .i64 (b.length : Int)) = some (.bool false) := fun kk => (Jgg rfl).trans (by rw [decide_eq_false (by omega)])
 simp [lx, ly, eg]
 repeat refine Does.seq ?_
 refine Does.condF (by simp) ?_
 refine Does.skip ?_
 simp
 repeat refine Does.seq ?_
 refine Does.region ?_
 simp
 generalize hA : Jbi S.same a b = A
 refine Does.mono (Q := EqQ st 4 A) ?loop ?tail
 case tail => as_aux_lemma =>
  rintro e fr' st' ⟨hk, hds, ⟨rfl, h2, hc⟩ | ⟨rfl, hc⟩⟩
  ·simp only [andThen]
   simp [hds, h2, hc, hk]
  ·simp only [andThen]
   repeat refine Does.seq ?_
   refine Does.region ?_
   simp
   refine Does.ret ?_
   simp [hds, hc, hk]
 case loop => as_aux_lemma =>
  refine Does.block (Does.up a.length (fun i fr st' => Keep st st' ∧ fr.ds = [] ∧ fr.gl = gl ∧ Fr.at fr 0 = x ∧ Fr.at fr 1 = y ∧ Fr.at fr 5 = .int .i64 (i : Int) ∧ i ≤ a.length ∧ Jga S.same a b i) 0 ?init ?QD ?step)
  case init => exact ⟨.refl st, by simp, by simp, by simp, by simp, by simp, Nat.zero_le _, JdI _ _ _⟩
  case QD => exact fun i fr st' h => h.2.2.2.2.2.2.1
  case step =>
   rintro i fr st' ⟨hk, hds, hg, h0, h1, h5, hi, hall⟩
   have elen : ∀ kk, Jn Tryz.prog kk .lss 3 (.int .i64 (i : Int)) (.int .i64 (a.length : Int)) = some (.bool (decide (i < a.length))) := fun kk => JdM rfl
   repeat refine Does.seq ?_
   refine Does.region ?_
   by_cases hlt : i < a.length
   rotate_left
   ·rw [decide_eq_false hlt] at elen
    simp [h0, h5, lx, elen]
    repeat refine Does.seq ?_
    refine Does.condF (by simp) ?_
    refine Does.exit ?_
    simp only [inBlock, if_true, andThen]
    exact ⟨hk, by simp [hds], .inr ⟨rfl, by rw [← hA]; exact Jdh hlen hall (by omega)⟩⟩
   rw [decide_eq_true hlt] at elen
   have hlt' : i < b.length := by omega
   have hkt : Keep st { ctr := st'.ctr + 9, box := st'.box } := hk.tick 9
   obtain ⟨pa, i1, hl1⟩ := (hx.keep hkt).get Tryz.underlying22 z9 a9 hlt (k := .i64)
   obtain ⟨pb, i2, hl2⟩ := (hy.keep hkt).get Tryz.underlying22 z9 a9 hlt' (k := .i64)
   have hga : a.getD i ⟨0, 0⟩ = a[i] := by rw [List.getD_eq_getElem?_getD, List.getElem?_eq_getElem hlt]; rfl
   have hgb : b.getD i ⟨0, 0⟩ = b[i] := by rw [List.getD_eq_getElem?_getD, List.getElem?_eq_getElem hlt']; rfl
   have hstep := fun h => JdJ hall hlt hlt' h
   have hnot := fun h => Jed (p := S.same) hlt hlt' h
   have ene : ∀ kk, Jn Tryz.prog kk .neq 9 (.str a[i]) (.str b[i]) = some (.bool (!a[i].same b[i])) := fun kk => Ju
   have w1 : IntKind.i64.wrap ((i : Int) + 1) = (i : Int) + 1 := Jr (by omega) (by omega)
   rw [hga] at hl1
   rw [hgb] at hl2
   clear hga hgb
   generalize a[i].same b[i] = mb at ene hstep hnot
   generalize a[i] = s at hl1 ene
   generalize b[i] = u at hl2 ene
   simp [h0, h5, lx, elen]
   repeat refine Does.seq ?_
   refine Does.condT (by simp) ?_
   refine Does.skip ?_
   simp
   repeat refine Does.seq ?_
   refine Does.block ?_
   repeat refine Does.seq ?_
   refine Does.draw (b := [0, 0, 3, 7, 0, 0, 48, 112, 255]) (l := [0, 1, 2, 3, 4, 5, 6, 7, 8]) (by kernel_rfl) (by kernel_rfl) (by kernel_rfl) ?_
   simp [JM, h0, h1, h5, i1, i2, hl1, hl2, JL, ene]
   repeat refine Does.seq ?_
   cases mb with
   | false =>
    refine Does.condT (by simp) ?_
    repeat refine Does.seq ?_
    refine Does.region ?_
    simp
    refine Does.ret ?_
    simp only [andThen, inBlock]
    exact ⟨hkt, by simp [hds], .inl ⟨rfl, by simp, by rw [← hA]; exact hnot rfl⟩⟩
   | true =>
    refine Does.condF (by simp) ?_
    refine Does.skip ?_
    simp only [andThen, inBlock]
    refine Does.region ?_
    simp [h5, Jz, w1]
    exact ⟨i + 1, by omega, hkt, by simp [hds], by simp [hg], by simp [h0], by simp [h1], by simp, by omega, hstep rfl⟩
theorem Jmv (gl : Gl) (st : St) (x y : V) (a b : List S) (hx : Vw st x a) (hy : Vw st y b) (hl : a.length < 1000000) :
  ∃ v st', W Tryz.prog (.call gl 12 [x, y]) st = .call (.val v st') ∧ v = .bool (Jbi S.same a b) ∧ Keep st st' := by
 have hk34 : Qx Tryz.prog 31 = true := by kernel_rfl
 have lx := hx.len Tryz.underlying22
 have ly := hy.len Tryz.underlying22
 have ee : ∀ kk, Jn Tryz.prog kk .eql 3 (.int .i64 (a.length : Int)) (.int .i64 (b.length : Int)) = some (.bool (decide (a.length = b.length))) := fun kk => JdL rfl
 refine Jcf (NY.no _ rfl rfl rfl _ _) Tryz.func12 rfl (by kernel_rfl) ?_
 repeat refine Does.seq ?_
 refine Does.region ?_
 simp
 repeat refine Does.seq ?_
 refine Does.region ?_
 by_cases hlen : a.length = b.length
 ·obtain ⟨v, st1, hc, rfl, hk⟩ := Jmu gl st x y a b hx hy hlen hl
  have hc := Q1 hc
  rw [decide_eq_true hlen] at ee
  generalize Jbi S.same a b = A at hc
  simp [lx, ly, ee, J6 hk34, hc]
  refine Does.ret ?_
  simp
  exact hk
 ·rw [decide_eq_false hlen] at ee
  rw [Jec hlen]
  simp [lx, ly, ee]
  refine Does.ret ?_
  simp
  exact .refl _
end Go.Vm
namespace Go.Vm
open Go Go.Proofs Go.Pa
attribute [local simp] Oks Qr Jm Jq vop Js JB ev evs toV andThen inBlock Jl Fr.dsTo Fr.glTo Fr.toNone Ji Jj Jk Qk Jd JD Jv V.undef JW QM Q9
theorem Row.vw {x : V} {l : List S} (h : Row sC x l) (st : St) : Vw st x l := by
 cases h with
 | nils => exact .nils
 | sl l ex =>
  have : l.flatMap sC = l.map .str := by
   induction l with
   | nil => rfl
   | cons a l ih => rw [List.flatMap_cons, ih]; rfl
  rw [this]
  exact .sl l ex
variable [Memo] [NY]
end Go.Vm
namespace Go.Vm
open Go Go.Proofs Go.Pa
attribute [local simp] Oks Qr Jm Jq vop Js JB ev evs toV andThen inBlock Jl Fr.dsTo Fr.glTo Fr.toNone Ji Jj Jk Qk Jd JD Jv V.undef JW QM Q9
variable [Memo] [NY]
end Go.Vm
namespace Go.Vm
open Go Go.Proofs Go.Pa
attribute [local simp] Oks Qr Jm Jq vop Js JB ev evs toV andThen inBlock Jl Fr.dsTo Fr.glTo Fr.toNone Ji Jj Jk Qk Jd JD Jv V.undef JW QM Q9
variable [Memo] [NY]
end Go.Vm
namespace Go.Vm
open Go Go.Proofs Go.Pa
end Go.Vm
namespace Go.Vm
open Go Go.Proofs Go.Pa
attribute [local simp] Oks Qr Jm Jq vop Js JB ev evs toV andThen inBlock Jl Fr.dsTo Fr.glTo Fr.toNone Ji Jj Jk Qk Jd JD Jv V.undef JW QM Q9
set_option maxRecDepth 100000 in
theorem JiC {st : St} {n : Nat} (hn : n < 1000000) : QJ Tryz.prog st 3 123 (.int .i64 (n : Int)) = some (.int .u64 (n : Int)) := by
 have h : QJ Tryz.prog st 3 123 (.int .i64 (n : Int)) = QQ Tryz.prog (fun l => convert 3 123 (l.getD 0 undef)) [.int .i64 (n : Int)] := by
  simp only [QJ, Tryz.underlying3, Tryz.underlying123]
 rw [h]
 simp only [QQ, Jd, ofV]
 have h2 : Q2 Tryz.prog (convert 3 123 (.int .i64 (n : Int))) = some (.int .u64 (IntKind.u64.wrap (n : Int))) := by
  simp only [convert, Jay, QP Tryz.underlying3, QP Tryz.underlying123, Option.bind_some]
  rfl
 have h3 : IntKind.u64.wrap (n : Int) = (n : Int) := by
  simp [IntKind.wrap, IntKind.bits, IntKind.signed]
  omega
 show (match Q2 Tryz.prog (convert 3 123 (.int .i64 (n : Int))) with
  | some v => toV 6 v
  | none => none) = _
 rw [h2, h3]
 rfl
variable [Memo] [NY]
end Go.Vm
