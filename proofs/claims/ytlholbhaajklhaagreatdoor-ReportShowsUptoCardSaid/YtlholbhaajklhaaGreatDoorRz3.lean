/- The same texts: by the document's Same and Under. The same facts: by the program. The same facts: by the program. cmp.Less of texts. Texts in order: plain. slices.BinarySearch of texts. -/
import Derived.Test.YtlholbhaajklhaaGreatDoorRz2
namespace Go.Vm
open Go Go.Proofs Go.Pa
attribute [local simp] Oks Ql Jg Jl vop Ju JD ev evs toV andThen inBlock Jq Fr.dsTo Fr.glTo Fr.toNone Jn Jo Jp Qi Jc JK Jw V.undef J7 QB QL
def Jel {α : Type} (p : α → α → Bool) : List α → List α → Bool
 | [], [] => true
 | a :: l, b :: m => p a b && Jel p l m
 | _, _ => false
theorem JiR {α : Type} {p : α → α → Bool} : ∀ {l m : List α}, ¬ l.length = m.length → Jel p l m = false
 | [], [], h => absurd rfl h
 | [], b :: m, _ => rfl
 | a :: l, [], _ => rfl
 | a :: l, b :: m, h => by rw [Jel, JiR (fun e => h (by simp [e])), Bool.and_false]
def JiS {α : Type} (p : α → α → Bool) (l m : List α) (i : Nat) : Prop := ∀ j (h : j < l.length) (h' : j < m.length), j < i → p l[j] m[j] = true
theorem Jj5 {α : Type} (p : α → α → Bool) (l m : List α) : JiS p l m 0 := fun j _ _ h => absurd h (Nat.not_lt_zero j)
theorem Jj6 {α : Type} {p : α → α → Bool} {l m : List α} {i : Nat} (h : JiS p l m i) (hi : i < l.length) (hi' : i < m.length) (hb : p l[i] m[i] = true) : JiS p l m (i + 1) := fun j hj hj' h1 => by
 by_cases he : j = i
 ·subst he; exact hb
 ·exact h j hj hj' (by omega)
theorem Jhj {α : Type} {p : α → α → Bool} : ∀ {l m : List α} {i : Nat}, l.length = m.length → JiS p l m i → l.length ≤ i → Jel p l m = true
 | [], [], _, _, _, _ => rfl
 | a :: l, b :: m, i, hl, h, hi => by
  rw [Jel, show p a b = true from h 0 (by simp) (by simp) (by simp at hi; omega), Bool.true_and]
  exact Jhj (i := i - 1) (by simpa using hl) (fun j hj hj' h1 => h (j + 1) (by simpa using hj) (by simpa using hj') (by omega)) (by simp at hi; omega)
theorem JiT {α : Type} {p : α → α → Bool} : ∀ {l m : List α} {i : Nat} (hi : i < l.length) (hi' : i < m.length), p l[i] m[i] = false → Jel p l m = false
 | a :: l, b :: m, 0, _, _, h => by rw [Jel, show p a b = false from h, Bool.false_and]
 | a :: l, b :: m, i + 1, hi, hi', h => by
  rw [Jel, JiT (by simpa using hi) (by simpa using hi') (by simpa using h), Bool.and_false]
def EqQ (st : St) (k : Nat) (A : Bool) (e : AE) (fr' : Fr) (st' : St) : Prop := Keep st st' ∧ fr'.ds = [] ∧ ((e = AE.ret ∧ Fr.at fr' k = .bool false ∧ A = false) ∨ (e = AE.normal ∧ A = true))
variable [Memo] [NY]
set_option maxRecDepth 100000 in
theorem Jmw (gl : Gl) (st : St) (x y : V) (a b : List S) (hx : Vw st x a) (hy : Vw st y b) (hlen : a.length = b.length) (hl : a.length < 1000000) :
  ∃ v st', W Tryz.prog (.call gl 32 [x, y]) st = .call (.val v st') ∧ v = .bool (Jel S.same a b) ∧ Keep st st' := by
 have lx := hx.len Tryz.underlying23
 have ly := hy.len Tryz.underlying23
 refine Jah (NY.no _ rfl rfl rfl _ _) Tryz.func32 rfl (by kernel_rfl) ?_
 repeat refine Does.seq ?_
 refine Does.region ?_
 simp
 repeat refine Does.seq ?_
 refine Does.region ?_
 have eg : ∀ kk, Jd Tryz.prog kk .gtr 3 (.int .i64 (a.length : Int)) (.int .i64 (b.length : Int)) = some (.bool false) := fun kk => (JcN rfl).trans (by rw [decide_eq_false (by omega)])
 simp [lx, ly, eg]
 repeat refine Does.seq ?_
 refine Does.condF (by simp) ?_
 refine Does.skip ?_
 simp
 repeat refine Does.seq ?_
 refine Does.region ?_
 simp
 generalize hA : Jel S.same a b = A
 refine Does.mono (Q := EqQ st 4 A) ?loop ?tail
 case tail => as_aux_lemma =>
  rintro e fr' st' ⟨hk, hds, ⟨rfl, h2, hc⟩ | ⟨rfl, hc⟩⟩
  ·simp only [andThen]
   simp [hds, h2, hc, hk]
  ·simp only [andThen]
   repeat refine Does.seq ?_
   refine Does.region ?_
   simp
   refine Does.ret ?_
   simp [hds, hc, hk]
 case loop => as_aux_lemma =>
  refine Does.block (Does.up a.length (fun i fr st' => Keep st st' ∧ fr.ds = [] ∧ fr.gl = gl ∧ Fr.at fr 0 = x ∧ Fr.at fr 1 = y ∧ Fr.at fr 5 = .int .i64 (i : Int) ∧ i ≤ a.length ∧ JiS S.same a b i) 0 ?init ?JY ?step)
  case init => exact ⟨.refl st, by simp, by simp, by simp, by simp, by simp, Nat.zero_le _, Jj5 _ _ _⟩
  case JY => exact fun i fr st' h => h.2.2.2.2.2.2.1
  case step =>
   rintro i fr st' ⟨hk, hds, hg, h0, h1, h5, hi, hall⟩
   have elen : ∀ kk, Jd Tryz.prog kk .lss 3 (.int .i64 (i : Int)) (.int .i64 (a.length : Int)) = some (.bool (decide (i < a.length))) := fun kk => JaL rfl
   repeat refine Does.seq ?_
   refine Does.region ?_
   by_cases hlt : i < a.length
   rotate_left
   ·rw [decide_eq_false hlt] at elen
    simp [h0, h5, lx, elen]
    repeat refine Does.seq ?_
    refine Does.condF (by simp) ?_
    refine Does.exit ?_
    simp only [inBlock, if_true, andThen]
    exact ⟨hk, by simp [hds], .inr ⟨rfl, by rw [← hA]; exact Jhj hlen hall (by omega)⟩⟩
   rw [decide_eq_true hlt] at elen
   have hlt' : i < b.length := by omega
   have hkt : Keep st { ctr := st'.ctr + 9, box := st'.box } := hk.tick 9
   obtain ⟨pa, i1, hl1⟩ := (hx.keep hkt).get Tryz.underlying23 z9 a9 hlt (k := .i64)
   obtain ⟨pb, i2, hl2⟩ := (hy.keep hkt).get Tryz.underlying23 z9 a9 hlt' (k := .i64)
   have hga : a.getD i ⟨0, 0⟩ = a[i] := by rw [List.getD_eq_getElem?_getD, List.getElem?_eq_getElem hlt]; rfl
   have hgb : b.getD i ⟨0, 0⟩ = b[i] := by rw [List.getD_eq_getElem?_getD, List.getElem?_eq_getElem hlt']; rfl
   have hstep := fun h => Jj6 hall hlt hlt' h
   have hnot := fun h => JiT (p := S.same) hlt hlt' h
   have ene : ∀ kk, Jd Tryz.prog kk .neq 9 (.str a[i]) (.str b[i]) = some (.bool (!a[i].same b[i])) := fun kk => JG
   have w1 : IntKind.i64.wrap ((i : Int) + 1) = (i : Int) + 1 := Js (by omega) (by omega)
   rw [hga] at hl1
   rw [hgb] at hl2
   clear hga hgb
   generalize a[i].same b[i] = mb at ene hstep hnot
   generalize a[i] = s at hl1 ene
   generalize b[i] = u at hl2 ene
   simp [h0, h5, lx, elen]
   repeat refine Does.seq ?_
   refine Does.condT (by simp) ?_
   refine Does.skip ?_
   simp
   repeat refine Does.seq ?_
   refine Does.block ?_
   repeat refine Does.seq ?_
   refine Does.draw (b := [0, 0, 3, 7, 0, 0, 48, 112, 255]) (l := [0, 1, 2, 3, 4, 5, 6, 7, 8]) (by kernel_rfl) (by kernel_rfl) (by kernel_rfl) ?_
   simp [JX, h0, h1, h5, i1, i2, hl1, hl2, JZ, ene]
   repeat refine Does.seq ?_
   cases mb with
   | false =>
    refine Does.condT (by simp) ?_
    repeat refine Does.seq ?_
    refine Does.region ?_
    simp
    refine Does.ret ?_
    simp only [andThen, inBlock]
    exact ⟨hkt, by simp [hds], .inl ⟨rfl, by simp, by rw [← hA]; exact hnot rfl⟩⟩
   | true =>
    refine Does.condF (by simp) ?_
    refine Does.skip ?_
    simp only [andThen, inBlock]
    refine Does.region ?_
    simp [h5, JA, w1]
    exact ⟨i + 1, by omega, hkt, by simp [hds], by simp [hg], by simp [h0], by simp [h1], by simp, by omega, hstep rfl⟩
theorem Jmx (gl : Gl) (st : St) (x y : V) (a b : List S) (hx : Vw st x a) (hy : Vw st y b) (hl : a.length < 1000000) :
  ∃ v st', W Tryz.prog (.call gl 11 [x, y]) st = .call (.val v st') ∧ v = .bool (Jel S.same a b) ∧ Keep st st' := by
 have hk34 : JN Tryz.prog 32 = true := by kernel_rfl
 have lx := hx.len Tryz.underlying23
 have ly := hy.len Tryz.underlying23
 have ee : ∀ kk, Jd Tryz.prog kk .eql 3 (.int .i64 (a.length : Int)) (.int .i64 (b.length : Int)) = some (.bool (decide (a.length = b.length))) := fun kk => Jbg rfl
 refine Jah (NY.no _ rfl rfl rfl _ _) Tryz.func11 rfl (by kernel_rfl) ?_
 repeat refine Does.seq ?_
 refine Does.region ?_
 simp
 repeat refine Does.seq ?_
 refine Does.region ?_
 by_cases hlen : a.length = b.length
 ·obtain ⟨v, st1, hc, rfl, hk⟩ := Jmw gl st x y a b hx hy hlen hl
  have hc := JU hc
  rw [decide_eq_true hlen] at ee
  generalize Jel S.same a b = A at hc
  simp [lx, ly, ee, Jf hk34, hc]
  refine Does.ret ?_
  simp
  exact hk
 ·rw [decide_eq_false hlen] at ee
  rw [JiR hlen]
  simp [lx, ly, ee]
  refine Does.ret ?_
  simp
  exact .refl _
end Go.Vm
namespace Go.Vm
open Go Go.Proofs Go.Pa
attribute [local simp] Oks Ql Jg Jl vop Ju JD ev evs toV andThen inBlock Jq Fr.dsTo Fr.glTo Fr.toNone Jn Jo Jp Qi Jc JK Jw V.undef J7 QB QL
theorem Row.vw {x : V} {l : List S} (h : Row sC x l) (st : St) : Vw st x l := by
 cases h with
 | nils => exact .nils
 | sl l ex =>
  have : l.flatMap sC = l.map .str := by
   induction l with
   | nil => rfl
   | cons a l ih => rw [List.flatMap_cons, ih]; rfl
  rw [this]
  exact .sl l ex
variable [Memo] [NY]
end Go.Vm
namespace Go.Vm
open Go Go.Proofs Go.Pa
attribute [local simp] Oks Ql Jg Jl vop Ju JD ev evs toV andThen inBlock Jq Fr.dsTo Fr.glTo Fr.toNone Jn Jo Jp Qi Jc JK Jw V.undef J7 QB QL
theorem JpS (a b kk : Bool) : Jd Tryz.prog kk .eql 4 (.bool a) (.bool b) = some (.bool (a == b)) := by cases a <;> cases b <;> cases kk <;> kernel_rfl
variable [Memo] [NY]
end Go.Vm
namespace Go.Vm
open Go Go.Proofs Go.Pa
attribute [local simp] Oks Ql Jg Jl vop Ju JD ev evs toV andThen inBlock Jq Fr.dsTo Fr.glTo Fr.toNone Jn Jo Jp Qi Jc JK Jw V.undef J7 QB QL
theorem JlD (s : S) : s.same s = true := by rw [S.same_eq]; simp
variable [Memo] [NY]
end Go.Vm
namespace Go.Vm
open Go Go.Proofs Go.Pa
end Go.Vm
namespace Go.Vm
open Go Go.Proofs Go.Pa
attribute [local simp] Oks Ql Jg Jl vop Ju JD ev evs toV andThen inBlock Jq Fr.dsTo Fr.glTo Fr.toNone Jn Jo Jp Qi Jc JK Jw V.undef J7 QB QL
variable [Memo] [NY]
end Go.Vm
