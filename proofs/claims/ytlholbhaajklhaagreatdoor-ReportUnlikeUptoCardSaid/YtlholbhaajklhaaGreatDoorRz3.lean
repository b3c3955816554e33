/- The same texts: by the document's Same and Under. -/
import Derived.Test.YtlholbhaajklhaaGreatDoorRz2
namespace Go.Vm
open Go Go.Proofs Go.Pa
attribute [local simp] Oks Qe Je Jk vop Jq Jx ev evs toV andThen inBlock Jj Fr.dsTo Fr.glTo Fr.toNone Jg Jh Ji J7 Jc JF Jt V.undef JX Qq QJ
def Jcb {α : Type} (p : α → α → Bool) : List α → List α → Bool
 | [], [] => true
 | a :: l, b :: m => p a b && Jcb p l m
 | _, _ => false
theorem Jiv {α : Type} {p : α → α → Bool} : ∀ {l m : List α}, ¬ l.length = m.length → Jcb p l m = false
 | [], [], h => absurd rfl h
 | [], b :: m, _ => rfl
 | a :: l, [], _ => rfl
 | a :: l, b :: m, h => by rw [Jcb, Jiv (fun e => h (by simp [e])), Bool.and_false]
def Jiw {α : Type} (p : α → α → Bool) (l m : List α) (i : Nat) : Prop := ∀ j (h : j < l.length) (h' : j < m.length), j < i → p l[j] m[j] = true
theorem JjI {α : Type} (p : α → α → Bool) (l m : List α) : Jiw p l m 0 := fun j _ _ h => absurd h (Nat.not_lt_zero j)
theorem JjJ {α : Type} {p : α → α → Bool} {l m : List α} {i : Nat} (h : Jiw p l m i) (hi : i < l.length) (hi' : i < m.length) (hb : p l[i] m[i] = true) : Jiw p l m (i + 1) := fun j hj hj' h1 => by
 by_cases he : j = i
 ·subst he; exact hb
 ·exact h j hj hj' (by omega)
theorem Jg9 {α : Type} {p : α → α → Bool} : ∀ {l m : List α} {i : Nat}, l.length = m.length → Jiw p l m i → l.length ≤ i → Jcb p l m = true
 | [], [], _, _, _, _ => rfl
 | a :: l, b :: m, i, hl, h, hi => by
  rw [Jcb, show p a b = true from h 0 (by simp) (by simp) (by simp at hi; omega), Bool.true_and]
  exact Jg9 (i := i - 1) (by simpa using hl) (fun j hj hj' h1 => h (j + 1) (by simpa using hj) (by simpa using hj') (by omega)) (by simp at hi; omega)
theorem Jix {α : Type} {p : α → α → Bool} : ∀ {l m : List α} {i : Nat} (hi : i < l.length) (hi' : i < m.length), p l[i] m[i] = false → Jcb p l m = false
 | a :: l, b :: m, 0, _, _, h => by rw [Jcb, show p a b = false from h, Bool.false_and]
 | a :: l, b :: m, i + 1, hi, hi', h => by
  rw [Jcb, Jix (by simpa using hi) (by simpa using hi') (by simpa using h), Bool.and_false]
def EqQ (st : St) (k : Nat) (A : Bool) (e : AE) (fr' : Fr) (st' : St) : Prop := Keep st st' ∧ fr'.ds = [] ∧ ((e = AE.ret ∧ Fr.at fr' k = .bool false ∧ A = false) ∨ (e = AE.normal ∧ A = true))
variable [Memo] [NY]
set_option maxRecDepth 100000 in
theorem Jmr (gl : Gl) (st : St) (x y : V) (a b : List S) (hx : Vw st x a) (hy : Vw st y b) (hlen : a.length = b.length) (hl : a.length < 1000000) :
  ∃ v st', W Tryz.prog (.call gl 32 [x, y]) st = .call (.val v st') ∧ v = .bool (Jcb S.same a b) ∧ Keep st st' := by
 have lx := hx.len Tryz.underlying23
 have ly := hy.len Tryz.underlying23
 refine JaK (NY.no _ rfl rfl rfl _ _) Tryz.func32 rfl (by kernel_rfl) ?_
 repeat refine Does.seq ?_
 refine Does.region ?_
 simp
 repeat refine Does.seq ?_
 refine Does.region ?_
 have eg : ∀ kk, Jf Tryz.prog kk .gtr 3 (.int .i64 (a.length : Int)) (.int .i64 (b.length : Int)) = some (.bool false) := fun kk => (JeJ rfl).trans (by rw [decide_eq_false (by omega)])
 simp [lx, ly, eg]
 repeat refine Does.seq ?_
 refine Does.condF (by simp) ?_
 refine Does.skip ?_
 simp
 repeat refine Does.seq ?_
 refine Does.region ?_
 simp
 generalize hA : Jcb S.same a b = A
 refine Does.mono (Q := EqQ st 4 A) ?loop ?tail
 case tail => as_aux_lemma =>
  rintro e fr' st' ⟨hk, hds, ⟨rfl, h2, hc⟩ | ⟨rfl, hc⟩⟩
  ·simp only [andThen]
   simp [hds, h2, hc, hk]
  ·simp only [andThen]
   repeat refine Does.seq ?_
   refine Does.region ?_
   simp
   refine Does.ret ?_
   simp [hds, hc, hk]
 case loop => as_aux_lemma =>
  refine Does.block (Does.up a.length (fun i fr st' => Keep st st' ∧ fr.ds = [] ∧ fr.gl = gl ∧ Fr.at fr 0 = x ∧ Fr.at fr 1 = y ∧ Fr.at fr 5 = .int .i64 (i : Int) ∧ i ≤ a.length ∧ Jiw S.same a b i) 0 ?init ?J5 ?step)
  case init => exact ⟨.refl st, by simp, by simp, by simp, by simp, by simp, Nat.zero_le _, JjI _ _ _⟩
  case J5 => exact fun i fr st' h => h.2.2.2.2.2.2.1
  case step =>
   rintro i fr st' ⟨hk, hds, hg, h0, h1, h5, hi, hall⟩
   have elen : ∀ kk, Jf Tryz.prog kk .lss 3 (.int .i64 (i : Int)) (.int .i64 (a.length : Int)) = some (.bool (decide (i < a.length))) := fun kk => Jb2 rfl
   repeat refine Does.seq ?_
   refine Does.region ?_
   by_cases hlt : i < a.length
   rotate_left
   ·rw [decide_eq_false hlt] at elen
    simp [h0, h5, lx, elen]
    repeat refine Does.seq ?_
    refine Does.condF (by simp) ?_
    refine Does.exit ?_
    simp only [inBlock, if_true, andThen]
    exact ⟨hk, by simp [hds], .inr ⟨rfl, by rw [← hA]; exact Jg9 hlen hall (by omega)⟩⟩
   rw [decide_eq_true hlt] at elen
   have hlt' : i < b.length := by omega
   have hkt : Keep st { ctr := st'.ctr + 9, box := st'.box } := hk.tick 9
   obtain ⟨pa, i1, hl1⟩ := (hx.keep hkt).get Tryz.underlying23 z9 a9 hlt (k := .i64)
   obtain ⟨pb, i2, hl2⟩ := (hy.keep hkt).get Tryz.underlying23 z9 a9 hlt' (k := .i64)
   have hga : a.getD i ⟨0, 0⟩ = a[i] := by rw [List.getD_eq_getElem?_getD, List.getElem?_eq_getElem hlt]; rfl
   have hgb : b.getD i ⟨0, 0⟩ = b[i] := by rw [List.getD_eq_getElem?_getD, List.getElem?_eq_getElem hlt']; rfl
   have hstep := fun h => JjJ hall hlt hlt' h
   have hnot := fun h => Jix (p := S.same) hlt hlt' h
   have ene : ∀ kk, Jf Tryz.prog kk .neq 9 (.str a[i]) (.str b[i]) = some (.bool (!a[i].same b[i])) := fun kk => Jw
   have w1 : IntKind.i64.wrap ((i : Int) + 1) = (i : Int) + 1 := Ju (by omega) (by omega)
   rw [hga] at hl1
   rw [hgb] at hl2
   clear hga hgb
   generalize a[i].same b[i] = mb at ene hstep hnot
   generalize a[i] = s at hl1 ene
   generalize b[i] = u at hl2 ene
   simp [h0, h5, lx, elen]
   repeat refine Does.seq ?_
   refine Does.condT (by simp) ?_
   refine Does.skip ?_
   simp
   repeat refine Does.seq ?_
   refine Does.block ?_
   repeat refine Does.seq ?_
   refine Does.draw (b := [0, 0, 3, 7, 0, 0, 48, 112, 255]) (l := [0, 1, 2, 3, 4, 5, 6, 7, 8]) (by kernel_rfl) (by kernel_rfl) (by kernel_rfl) ?_
   simp [JQ, h0, h1, h5, i1, i2, hl1, hl2, JS, ene]
   repeat refine Does.seq ?_
   cases mb with
   | false =>
    refine Does.condT (by simp) ?_
    repeat refine Does.seq ?_
    refine Does.region ?_
    simp
    refine Does.ret ?_
    simp only [andThen, inBlock]
    exact ⟨hkt, by simp [hds], .inl ⟨rfl, by simp, by rw [← hA]; exact hnot rfl⟩⟩
   | true =>
    refine Does.condF (by simp) ?_
    refine Does.skip ?_
    simp only [andThen, inBlock]
    refine Does.region ?_
    simp [h5, JD, w1]
    exact ⟨i + 1, by omega, hkt, by simp [hds], by simp [hg], by simp [h0], by simp [h1], by simp, by omega, hstep rfl⟩
theorem Jiy (gl : Gl) (st : St) (x y : V) (a b : List S) (hx : Vw st x a) (hy : Vw st y b) (hl : a.length < 1000000) :
  ∃ v st', W Tryz.prog (.call gl 11 [x, y]) st = .call (.val v st') ∧ v = .bool (Jcb S.same a b) ∧ Keep st st' := by
 have hk34 : JN Tryz.prog 32 = true := by kernel_rfl
 have lx := hx.len Tryz.underlying23
 have ly := hy.len Tryz.underlying23
 have ee : ∀ kk, Jf Tryz.prog kk .eql 3 (.int .i64 (a.length : Int)) (.int .i64 (b.length : Int)) = some (.bool (decide (a.length = b.length))) := fun kk => JdR rfl
 refine JaK (NY.no _ rfl rfl rfl _ _) Tryz.func11 rfl (by kernel_rfl) ?_
 repeat refine Does.seq ?_
 refine Does.region ?_
 simp
 repeat refine Does.seq ?_
 refine Does.region ?_
 by_cases hlen : a.length = b.length
 ·obtain ⟨v, st1, hc, rfl, hk⟩ := Jmr gl st x y a b hx hy hlen hl
  have hc := J1 hc
  rw [decide_eq_true hlen] at ee
  generalize Jcb S.same a b = A at hc
  simp [lx, ly, ee, Jp hk34, hc]
  refine Does.ret ?_
  simp
  exact hk
 ·rw [decide_eq_false hlen] at ee
  rw [Jiv hlen]
  simp [lx, ly, ee]
  refine Does.ret ?_
  simp
  exact .refl _
end Go.Vm
namespace Go.Vm
open Go Go.Proofs Go.Pa
attribute [local simp] Oks Qe Je Jk vop Jq Jx ev evs toV andThen inBlock Jj Fr.dsTo Fr.glTo Fr.toNone Jg Jh Ji J7 Jc JF Jt V.undef JX Qq QJ
theorem Row.vw {x : V} {l : List S} (h : Row sC x l) (st : St) : Vw st x l := by
 cases h with
 | nils => exact .nils
 | sl l ex =>
  have : l.flatMap sC = l.map .str := by
   induction l with
   | nil => rfl
   | cons a l ih => rw [List.flatMap_cons, ih]; rfl
  rw [this]
  exact .sl l ex
variable [Memo] [NY]
end Go.Vm
namespace Go.Vm
open Go Go.Proofs Go.Pa
attribute [local simp] Oks Qe Je Jk vop Jq Jx ev evs toV andThen inBlock Jj Fr.dsTo Fr.glTo Fr.toNone Jg Jh Ji J7 Jc JF Jt V.undef JX Qq QJ
theorem JnW (a b kk : Bool) : Jf Tryz.prog kk .eql 4 (.bool a) (.bool b) = some (.bool (a == b)) := by cases a <;> cases b <;> cases kk <;> kernel_rfl
variable [Memo] [NY]
end Go.Vm
namespace Go.Vm
open Go Go.Proofs Go.Pa
attribute [local simp] Oks Qe Je Jk vop Jq Jx ev evs toV andThen inBlock Jj Fr.dsTo Fr.glTo Fr.toNone Jg Jh Ji J7 Jc JF Jt V.undef JX Qq QJ
theorem JlD (s : S) : s.same s = true := by rw [S.same_eq]; simp
variable [Memo] [NY]
end Go.Vm
namespace Go.Vm
open Go Go.Proofs Go.Pa
theorem Jms : ∀ l : List UInt8, Op.bytesLess l l = false
 | [] => rfl
 | a :: l => by
  rw [Op.bytesLess, Jms l, Bool.and_false, Bool.or_false]
  simp
theorem Jiz : ∀ a b : List UInt8, Op.bytesLess a b = false → Op.bytesLess b a = false → a = b
 | [], [], _, _ => rfl
 | [], b :: y, h, _ => by cases h
 | a :: x, [], _, h => by cases h
 | a :: x, b :: y, h, k => by
  rw [Op.bytesLess, Bool.or_eq_false_iff] at h k
  have h1 : ¬ a < b := by simpa using h.1
  have k1 : ¬ b < a := by simpa using k.1
  have he : a = b := by
   apply UInt8.toNat_inj.1
   rw [UInt8.lt_iff_toNat_lt] at h1 k1
   omega
  subst he
  have h2 : Op.bytesLess x y = false := by simpa using h.2
  have k2 : Op.bytesLess y x = false := by simpa using k.2
  rw [Jiz x y h2 k2]
theorem JiA : ∀ a b c : List UInt8, Op.bytesLess a b = true → Op.bytesLess b c = true → Op.bytesLess a c = true
 | [], [], _, h, _ => by cases h
 | _ :: _, [], _, h, _ => by cases h
 | _, _ :: _, [], _, k => by cases k
 | [], _ :: _, _ :: _, _, _ => rfl
 | a :: x, b :: y, c :: z, h, k => by
  rw [Op.bytesLess, Bool.or_eq_true, Bool.and_eq_true] at h k ⊢
  simp only [decide_eq_true_eq, beq_iff_eq, UInt8.lt_iff_toNat_lt] at h k ⊢
  rcases h with h | ⟨rfl, h⟩
  ·rcases k with k | ⟨rfl, k⟩
   ·exact .inl (by omega)
   ·exact .inl h
  ·rcases k with k | ⟨rfl, k⟩
   ·exact .inl k
   ·exact .inr ⟨rfl, JiA x y z h k⟩
theorem JjK {a b c : S} (h : a.less b = true) (k : b.less c = true) : a.less c = true := by
 rw [S.less_eq] at *; exact JiA _ _ _ h k
theorem JjL {a b : S} (h : a.less b = false) (k : b.less a = false) : a.same b = true := by
 rw [S.less_eq] at h k
 rw [S.same_eq, Jiz _ _ h k]; simp
theorem Je2 {a b : S} (h : a.same b = true) : a.toList = b.toList := by rw [S.same_eq] at h; simpa using h
theorem JlE {a b c : S} (h : a.less b = true) (k : b.same c = true) : a.less c = true := by
 rw [S.less_eq] at *; rw [← Je2 k]; exact h
theorem JgS {a b : S} (h : a.less b = true) : a.same b = false := by
 cases k : a.same b with
 | false => rfl
 | true =>
  rw [S.less_eq, Je2 k, Jms] at h; cases h
def JjM (l : List S) : Prop := ∀ i j (hj : j < l.length) (hij : i < j), (l[i]'(by omega)).less l[j] = true
theorem JlF {l : List S} (h : Q9 l = true) : JjM l := by
 have hstep : ∀ i (hi : i + 1 < l.length), l[i].less l[i + 1] = true := fun i hi => by
  unfold Q9 at h
  rw [List.all_eq_true] at h
  have := h (i + 1) (List.mem_range.2 hi)
  unfold JbW at this
  rw [List.getD_eq_getElem?_getD, List.getElem?_eq_getElem hi, List.getD_eq_getElem?_getD, List.getElem?_eq_getElem (by omega : i + 1 - 1 < l.length)] at this
  simp only [Option.getD_some, Nat.add_sub_cancel, leS] at this
  rw [Bool.not_eq_true', Bool.or_eq_false_iff, Bool.and_eq_false_iff] at this
  have h2 : (l[i + 1].less l[i] || l[i + 1].same l[i]) = false := this.2.resolve_left (by simp)
  rw [Bool.or_eq_false_iff] at h2
  cases hl : l[i].less l[i + 1] with
  | true => rfl
  | false =>
   have h3 := JjL h2.1 hl
   rw [h2.2] at h3; cases h3
 intro i j hj hij
 induction j with
 | zero => omega
 | succ j ih =>
  by_cases he : i = j
  ·subst he; exact hstep i hj
  ·exact JjK (ih (by omega) (by omega)) (hstep j hj)
end Go.Vm
namespace Go.Vm
open Go Go.Proofs Go.Pa
attribute [local simp] Oks Qe Je Jk vop Jq Jx ev evs toV andThen inBlock Jj Fr.dsTo Fr.glTo Fr.toNone Jg Jh Ji J7 Jc JF Jt V.undef JX Qq QJ
variable [Memo] [NY]
end Go.Vm
