/- The same texts: by the document's Same and Under. The same facts: by the program. The same facts: by the program. cmp.Less of texts. Texts in order: plain. slices.BinarySearch of texts. -/
import Derived.Test.YtidnmhdlfofinaaGreatDoorPz2
namespace Go.Vm
open Go Go.Proofs Go.Pa
attribute [local simp] Oks xOps vwanted isDefer vop kindOf vpure ev evs toV andThen inBlock atTo_some Fr.dsTo Fr.glTo Fr.toNone initFr_at initFr_ds initFr_gl veff traverse tupled vresult V.undef evOpt xDraw xStep
def all2 {α : Type} (p : α → α → Bool) : List α → List α → Bool
  | [], [] => true
  | a :: l, b :: m => p a b && all2 p l m
  | _, _ => false
theorem all2_len {α : Type} {p : α → α → Bool} : ∀ {l m : List α}, ¬ l.length = m.length → all2 p l m = false
  | [], [], h => absurd rfl h
  | [], b :: m, _ => rfl
  | a :: l, [], _ => rfl
  | a :: l, b :: m, h => by rw [all2, all2_len (fun e => h (by simp [e])), Bool.and_false]
def Upto2 {α : Type} (p : α → α → Bool) (l m : List α) (i : Nat) : Prop := ∀ j (h : j < l.length) (h' : j < m.length), j < i → p l[j] m[j] = true
theorem upto2_zero {α : Type} (p : α → α → Bool) (l m : List α) : Upto2 p l m 0 := fun j _ _ h => absurd h (Nat.not_lt_zero j)
theorem upto2_step {α : Type} {p : α → α → Bool} {l m : List α} {i : Nat} (h : Upto2 p l m i) (hi : i < l.length) (hi' : i < m.length) (hb : p l[i] m[i] = true) : Upto2 p l m (i + 1) := fun j hj hj' h1 => by
  by_cases he : j = i
  · subst he; exact hb
  · exact h j hj hj' (by omega)
theorem upto2_end {α : Type} {p : α → α → Bool} : ∀ {l m : List α} {i : Nat}, l.length = m.length → Upto2 p l m i → l.length ≤ i → all2 p l m = true
  | [], [], _, _, _, _ => rfl
  | a :: l, b :: m, i, hl, h, hi => by
    rw [all2, show p a b = true from h 0 (by simp) (by simp) (by simp at hi; omega), Bool.true_and]
    exact upto2_end (i := i - 1) (by simpa using hl) (fun j hj hj' h1 => h (j + 1) (by simpa using hj) (by simpa using hj') (by omega)) (by simp at hi; omega)
theorem upto2_no {α : Type} {p : α → α → Bool} : ∀ {l m : List α} {i : Nat} (hi : i < l.length) (hi' : i < m.length), p l[i] m[i] = false → all2 p l m = false
  | a :: l, b :: m, 0, _, _, h => by rw [all2, show p a b = false from h, Bool.false_and]
  | a :: l, b :: m, i + 1, hi, hi', h => by
    rw [all2, upto2_no (by simpa using hi) (by simpa using hi') (by simpa using h), Bool.and_false]
def EqQ (st : St) (k : Nat) (A : Bool) (e : AE) (fr' : Fr) (st' : St) : Prop := Keep st st' ∧ fr'.ds = [] ∧ ((e = AE.ret ∧ Fr.at fr' k = .bool false ∧ A = false) ∨ (e = AE.normal ∧ A = true))
variable [Memo] [NY]
set_option maxRecDepth 100000 in
theorem under_ok (gl : Gl) (st : St) (x y : V) (a b : List S) (hx : Vw st x a) (hy : Vw st y b) (hlen : a.length = b.length) (hl : a.length < 1000000) :
    ∃ v st', W Tryz.prog (.call gl 34 [x, y]) st = .call (.val v st') ∧ v = .bool (all2 S.same a b) ∧ Keep st st' := by
  have lx := hx.len Tryz.underlying23
  have ly := hy.len Tryz.underlying23
  refine call_ex (NY.no _ rfl rfl rfl _ _) Tryz.func34 rfl (by kernel_rfl) ?_
  repeat refine Does.seq ?_
  refine Does.region ?_
  simp
  repeat refine Does.seq ?_
  refine Does.region ?_
  have eg : ∀ kk, vbin Tryz.prog kk .gtr 3 (.int .i64 (a.length : Int)) (.int .i64 (b.length : Int)) = some (.bool false) := fun kk => (vI_gtr rfl).trans (by rw [decide_eq_false (by omega)])
  simp [lx, ly, eg]
  repeat refine Does.seq ?_
  refine Does.condF (by simp) ?_
  refine Does.skip ?_
  simp
  repeat refine Does.seq ?_
  refine Does.region ?_
  simp
  generalize hA : all2 S.same a b = A
  refine Does.mono (Q := EqQ st 4 A) ?loop ?tail
  case tail => as_aux_lemma =>
    rintro e fr' st' ⟨hk, hds, ⟨rfl, h2, hc⟩ | ⟨rfl, hc⟩⟩
    · simp only [andThen]
      simp [hds, h2, hc, hk]
    · simp only [andThen]
      repeat refine Does.seq ?_
      refine Does.region ?_
      simp
      refine Does.ret ?_
      simp [hds, hc, hk]
  case loop => as_aux_lemma =>
    refine Does.block (Does.up a.length (fun i fr st' => Keep st st' ∧ fr.ds = [] ∧ fr.gl = gl ∧ Fr.at fr 0 = x ∧ Fr.at fr 1 = y ∧ Fr.at fr 5 = .int .i64 (i : Int) ∧ i ≤ a.length ∧ Upto2 S.same a b i) 0 ?init ?bound ?step)
    case init => exact ⟨.refl st, by simp, by simp, by simp, by simp, by simp, Nat.zero_le _, upto2_zero _ _ _⟩
    case bound => exact fun i fr st' h => h.2.2.2.2.2.2.1
    case step =>
      rintro i fr st' ⟨hk, hds, hg, h0, h1, h5, hi, hall⟩
      have elen : ∀ kk, vbin Tryz.prog kk .lss 3 (.int .i64 (i : Int)) (.int .i64 (a.length : Int)) = some (.bool (decide (i < a.length))) := fun kk => vI_lss rfl
      repeat refine Does.seq ?_
      refine Does.region ?_
      by_cases hlt : i < a.length
      rotate_left
      · rw [decide_eq_false hlt] at elen
        simp [h0, h5, lx, elen]
        repeat refine Does.seq ?_
        refine Does.condF (by simp) ?_
        refine Does.exit ?_
        simp only [inBlock, if_true, andThen]
        exact ⟨hk, by simp [hds], .inr ⟨rfl, by rw [← hA]; exact upto2_end hlen hall (by omega)⟩⟩
      rw [decide_eq_true hlt] at elen
      have hlt' : i < b.length := by omega
      have hkt : Keep st { ctr := st'.ctr + 9, box := st'.box } := hk.tick 9
      obtain ⟨pa, i1, hl1⟩ := (hx.keep hkt).get Tryz.underlying23 z9 a9 hlt (k := .i64)
      obtain ⟨pb, i2, hl2⟩ := (hy.keep hkt).get Tryz.underlying23 z9 a9 hlt' (k := .i64)
      have hga : a.getD i ⟨0, 0⟩ = a[i] := by rw [List.getD_eq_getElem?_getD, List.getElem?_eq_getElem hlt]; rfl
      have hgb : b.getD i ⟨0, 0⟩ = b[i] := by rw [List.getD_eq_getElem?_getD, List.getElem?_eq_getElem hlt']; rfl
      have hstep := fun h => upto2_step hall hlt hlt' h
      have hnot := fun h => upto2_no (p := S.same) hlt hlt' h
      have ene : ∀ kk, vbin Tryz.prog kk .neq 9 (.str a[i]) (.str b[i]) = some (.bool (!a[i].same b[i])) := fun kk => vbin_sneq
      have w1 : IntKind.i64.wrap ((i : Int) + 1) = (i : Int) + 1 := wrap_i64 (by omega) (by omega)
      rw [hga] at hl1
      rw [hgb] at hl2
      clear hga hgb
      generalize a[i].same b[i] = mb at ene hstep hnot
      generalize a[i] = s at hl1 ene
      generalize b[i] = u at hl2 ene
      simp [h0, h5, lx, elen]
      repeat refine Does.seq ?_
      refine Does.condT (by simp) ?_
      refine Does.skip ?_
      simp
      repeat refine Does.seq ?_
      refine Does.block ?_
      repeat refine Does.seq ?_
      refine Does.draw (b := [0, 0, 3, 7, 0, 0, 48, 112, 255]) (l := [0, 1, 2, 3, 4, 5, 6, 7, 8]) (by kernel_rfl) (by kernel_rfl) (by kernel_rfl) ?_
      simp [sameIn, h0, h1, h5, i1, i2, hl1, hl2, veq_str, ene]
      repeat refine Does.seq ?_
      cases mb with
      | false =>
        refine Does.condT (by simp) ?_
        repeat refine Does.seq ?_
        refine Does.region ?_
        simp
        refine Does.ret ?_
        simp only [andThen, inBlock]
        exact ⟨hkt, by simp [hds], .inl ⟨rfl, by simp, by rw [← hA]; exact hnot rfl⟩⟩
      | true =>
        refine Does.condF (by simp) ?_
        refine Does.skip ?_
        simp only [andThen, inBlock]
        refine Does.region ?_
        simp [h5, vbin_add, w1]
        exact ⟨i + 1, by omega, hkt, by simp [hds], by simp [hg], by simp [h0], by simp [h1], by simp, by omega, hstep rfl⟩
theorem sameS_ok (gl : Gl) (st : St) (x y : V) (a b : List S) (hx : Vw st x a) (hy : Vw st y b) (hl : a.length < 1000000) :
    ∃ v st', W Tryz.prog (.call gl 13 [x, y]) st = .call (.val v st') ∧ v = .bool (all2 S.same a b) ∧ Keep st st' := by
  have hk34 : callable Tryz.prog 34 = true := by kernel_rfl
  have lx := hx.len Tryz.underlying23
  have ly := hy.len Tryz.underlying23
  have ee : ∀ kk, vbin Tryz.prog kk .eql 3 (.int .i64 (a.length : Int)) (.int .i64 (b.length : Int)) = some (.bool (decide (a.length = b.length))) := fun kk => vI_eql rfl
  refine call_ex (NY.no _ rfl rfl rfl _ _) Tryz.func13 rfl (by kernel_rfl) ?_
  repeat refine Does.seq ?_
  refine Does.region ?_
  simp
  repeat refine Does.seq ?_
  refine Does.region ?_
  by_cases hlen : a.length = b.length
  · obtain ⟨v, st1, hc, rfl, hk⟩ := under_ok gl st x y a b hx hy hlen hl
    have hc := ihCall_W hc
    rw [decide_eq_true hlen] at ee
    generalize all2 S.same a b = A at hc
    simp [lx, ly, ee, vcall_callable hk34, hc]
    refine Does.ret ?_
    simp
    exact hk
  · rw [decide_eq_false hlen] at ee
    rw [all2_len hlen]
    simp [lx, ly, ee]
    refine Does.ret ?_
    simp
    exact .refl _
end Go.Vm
namespace Go.Vm
open Go Go.Proofs Go.Pa
attribute [local simp] Oks xOps vwanted isDefer vop kindOf vpure ev evs toV andThen inBlock atTo_some Fr.dsTo Fr.glTo Fr.toNone initFr_at initFr_ds initFr_gl veff traverse tupled vresult V.undef evOpt xDraw xStep
def eqI (a b : Int) : Bool := decide (a = b)
theorem Row.ns {x : V} {l : List Int} (h : Row iC x l) (st : St) : Ns st x l := by
  refine ⟨h.len Tryz.underlying36, fun j hj => ?_⟩
  obtain ⟨r, g⟩ := h.get (z := 1) (fun _ _ => rfl) Tryz.underlying36 z3 hj
  exact ⟨_, g, load3 l[j] r st⟩
theorem Row.vw {x : V} {l : List S} (h : Row sC x l) (st : St) : Vw st x l := by
  cases h with
  | nils => exact .nils
  | sl l ex =>
    have : l.flatMap sC = l.map .str := by
      induction l with
      | nil => rfl
      | cons a l ih => rw [List.flatMap_cons, ih]; rfl
    rw [this]
    exact .sl l ex
variable [Memo] [NY]
set_option maxRecDepth 100000 in
theorem eqStrs_ok (gl : Gl) (st : St) (x y : V) (a b : List S) (hx : Vw st x a) (hy : Vw st y b) (hl : a.length < 1000000) :
    ∃ v st', W Tryz.prog (.call gl 42 [x, y]) st = .call (.val v st') ∧ v = .bool (all2 S.same a b) ∧ Keep st st' := by
  have lx := hx.len Tryz.underlying23
  have ly := hy.len Tryz.underlying23
  refine call_ex (NY.no _ rfl rfl rfl _ _) Tryz.func42 rfl (by kernel_rfl) ?_
  repeat refine Does.seq ?_
  refine Does.region ?_
  simp
  repeat refine Does.seq ?_
  refine Does.region ?_
  have en : ∀ kk, vbin Tryz.prog kk .neq 3 (.int .i64 (a.length : Int)) (.int .i64 (b.length : Int)) = some (.bool (!decide (a.length = b.length))) := fun kk => vI_neq rfl
  by_cases hlen : a.length = b.length
  rotate_left
  · rw [decide_eq_false hlen] at en
    simp [lx, ly, en]
    repeat refine Does.seq ?_
    refine Does.condT (by simp) ?_
    repeat refine Does.seq ?_
    refine Does.region ?_
    simp
    refine Does.ret ?_
    rw [all2_len hlen]
    simp
    exact .refl _
  rw [decide_eq_true hlen] at en
  simp [lx, ly, en]
  repeat refine Does.seq ?_
  refine Does.condF (by simp) ?_
  refine Does.skip ?_
  simp
  repeat refine Does.seq ?_
  refine Does.region ?_
  simp [lx]
  generalize hA : all2 S.same a b = A
  refine Does.mono (Q := EqQ st 4 A) ?loop ?tail
  case tail => as_aux_lemma =>
    rintro e fr' st' ⟨hk, hds, ⟨rfl, h2, hc⟩ | ⟨rfl, hc⟩⟩
    · simp only [andThen]
      simp [hds, h2, hc, hk]
    · simp only [andThen]
      repeat refine Does.seq ?_
      refine Does.region ?_
      simp
      refine Does.ret ?_
      simp [hds, hc, hk]
  case loop => as_aux_lemma =>
    refine Does.block (Does.up a.length (fun i fr st' => Keep st st' ∧ fr.ds = [] ∧ fr.gl = gl ∧ Fr.at fr 0 = x ∧ Fr.at fr 1 = y ∧ Fr.at fr 12 = .int .i64 (a.length : Int) ∧ Fr.at fr 13 = .int .i64 (i : Int) ∧ i ≤ a.length ∧ Upto2 S.same a b i) 0 ?init ?bound ?step)
    case init => exact ⟨.refl st, by simp, by simp, by simp, by simp, by simp, by simp, Nat.zero_le _, upto2_zero _ _ _⟩
    case bound => exact fun i fr st' h => h.2.2.2.2.2.2.2.1
    case step =>
      rintro i fr st' ⟨hk, hds, hg, h0, h1, h12, h13, hi, hall⟩
      have elen : ∀ kk, vbin Tryz.prog kk .lss 3 (.int .i64 (i : Int)) (.int .i64 (a.length : Int)) = some (.bool (decide (i < a.length))) := fun kk => vI_lss rfl
      repeat refine Does.seq ?_
      refine Does.region ?_
      by_cases hlt : i < a.length
      rotate_left
      · rw [decide_eq_false hlt] at elen
        simp [h12, h13, elen]
        repeat refine Does.seq ?_
        refine Does.condF (by simp) ?_
        refine Does.exit ?_
        simp only [inBlock, if_true, andThen]
        exact ⟨hk, by simp [hds], .inr ⟨rfl, by rw [← hA]; exact upto2_end hlen hall (by omega)⟩⟩
      rw [decide_eq_true hlt] at elen
      have hlt' : i < b.length := by omega
      have hkt : Keep st { ctr := st'.ctr + 9, box := st'.box } := hk.tick 9
      obtain ⟨pa, i1, hl1⟩ := (hx.keep hkt).get Tryz.underlying23 z9 a9 hlt (k := .i64)
      obtain ⟨pb, i2, hl2⟩ := (hy.keep hkt).get Tryz.underlying23 z9 a9 hlt' (k := .i64)
      have hga : a.getD i ⟨0, 0⟩ = a[i] := by rw [List.getD_eq_getElem?_getD, List.getElem?_eq_getElem hlt]; rfl
      have hgb : b.getD i ⟨0, 0⟩ = b[i] := by rw [List.getD_eq_getElem?_getD, List.getElem?_eq_getElem hlt']; rfl
      have hstep := fun h => upto2_step hall hlt hlt' h
      have hnot := fun h => upto2_no (p := S.same) hlt hlt' h
      have ene : ∀ kk, vbin Tryz.prog kk .neq 9 (.str a[i]) (.str b[i]) = some (.bool (!a[i].same b[i])) := fun kk => vbin_sneq
      have w1 : IntKind.i64.wrap ((i : Int) + 1) = (i : Int) + 1 := wrap_i64 (by omega) (by omega)
      rw [hga] at hl1
      rw [hgb] at hl2
      clear hga hgb
      generalize a[i].same b[i] = mb at ene hstep hnot
      generalize a[i] = s at hl1 ene
      generalize b[i] = u at hl2 ene
      simp [h12, h13, elen]
      repeat refine Does.seq ?_
      refine Does.condT (by simp) ?_
      refine Does.skip ?_
      simp
      repeat refine Does.seq ?_
      refine Does.block ?_
      repeat refine Does.seq ?_
      refine Does.region ?_
      simp [h13]
      repeat refine Does.seq ?_
      refine Does.draw (b := [0, 0, 3, 7, 0, 0, 48, 112, 255]) (l := [0, 1, 2, 3, 4, 5, 6, 7, 8]) (by kernel_rfl) (by kernel_rfl) (by kernel_rfl) ?_
      simp [sameIn, h0, h1, i1, i2, hl1, hl2, veq_str, ene]
      repeat refine Does.seq ?_
      cases mb with
      | false =>
        refine Does.condT (by simp) ?_
        repeat refine Does.seq ?_
        refine Does.region ?_
        simp
        refine Does.ret ?_
        simp only [andThen, inBlock]
        exact ⟨hkt, by simp [hds], .inl ⟨rfl, by simp, by rw [← hA]; exact hnot rfl⟩⟩
      | true =>
        refine Does.condF (by simp) ?_
        refine Does.skip ?_
        simp only [andThen, inBlock]
        refine Does.region ?_
        simp [h13, vbin_add, w1]
        exact ⟨i + 1, by omega, hkt, by simp [hds], by simp [hg], by simp [h0], by simp [h1], by simp [h12], by simp, by omega, hstep rfl⟩
set_option maxRecDepth 100000 in
theorem eqInts_ok (gl : Gl) (st : St) (x y : V) (a b : List Int) (hx : ∀ st, Ns st x a) (hy : ∀ st, Ns st y b) (hl : a.length < 1000000) :
    ∃ v st', W Tryz.prog (.call gl 43 [x, y]) st = .call (.val v st') ∧ v = .bool (all2 eqI a b) ∧ Keep st st' := by
  have lx := (hx st).len
  have ly := (hy st).len
  refine call_ex (NY.no _ rfl rfl rfl _ _) Tryz.func43 rfl (by kernel_rfl) ?_
  repeat refine Does.seq ?_
  refine Does.region ?_
  simp
  repeat refine Does.seq ?_
  refine Does.region ?_
  have en : ∀ kk, vbin Tryz.prog kk .neq 3 (.int .i64 (a.length : Int)) (.int .i64 (b.length : Int)) = some (.bool (!decide (a.length = b.length))) := fun kk => vI_neq rfl
  by_cases hlen : a.length = b.length
  rotate_left
  · rw [decide_eq_false hlen] at en
    simp [lx, ly, en]
    repeat refine Does.seq ?_
    refine Does.condT (by simp) ?_
    repeat refine Does.seq ?_
    refine Does.region ?_
    simp
    refine Does.ret ?_
    rw [all2_len hlen]
    simp
    exact .refl _
  rw [decide_eq_true hlen] at en
  simp [lx, ly, en]
  repeat refine Does.seq ?_
  refine Does.condF (by simp) ?_
  refine Does.skip ?_
  simp
  repeat refine Does.seq ?_
  refine Does.region ?_
  simp [lx]
  generalize hA : all2 eqI a b = A
  refine Does.mono (Q := EqQ st 4 A) ?loop ?tail
  case tail => as_aux_lemma =>
    rintro e fr' st' ⟨hk, hds, ⟨rfl, h2, hc⟩ | ⟨rfl, hc⟩⟩
    · simp only [andThen]
      simp [hds, h2, hc, hk]
    · simp only [andThen]
      repeat refine Does.seq ?_
      refine Does.region ?_
      simp
      refine Does.ret ?_
      simp [hds, hc, hk]
  case loop => as_aux_lemma =>
    refine Does.block (Does.up a.length (fun i fr st' => Keep st st' ∧ fr.ds = [] ∧ fr.gl = gl ∧ Fr.at fr 0 = x ∧ Fr.at fr 1 = y ∧ Fr.at fr 12 = .int .i64 (a.length : Int) ∧ Fr.at fr 13 = .int .i64 (i : Int) ∧ i ≤ a.length ∧ Upto2 eqI a b i) 0 ?init ?bound ?step)
    case init => exact ⟨.refl st, by simp, by simp, by simp, by simp, by simp, by simp, Nat.zero_le _, upto2_zero _ _ _⟩
    case bound => exact fun i fr st' h => h.2.2.2.2.2.2.2.1
    case step =>
      rintro i fr st' ⟨hk, hds, hg, h0, h1, h12, h13, hi, hall⟩
      have elen : ∀ kk, vbin Tryz.prog kk .lss 3 (.int .i64 (i : Int)) (.int .i64 (a.length : Int)) = some (.bool (decide (i < a.length))) := fun kk => vI_lss rfl
      repeat refine Does.seq ?_
      refine Does.region ?_
      by_cases hlt : i < a.length
      rotate_left
      · rw [decide_eq_false hlt] at elen
        simp [h12, h13, elen]
        repeat refine Does.seq ?_
        refine Does.condF (by simp) ?_
        refine Does.exit ?_
        simp only [inBlock, if_true, andThen]
        exact ⟨hk, by simp [hds], .inr ⟨rfl, by rw [← hA]; exact upto2_end hlen hall (by omega)⟩⟩
      rw [decide_eq_true hlt] at elen
      have hlt' : i < b.length := by omega
      have hkt : Keep st { ctr := st'.ctr + 9, box := st'.box } := hk.tick 9
      obtain ⟨pa, i1', hl1⟩ := (hx { ctr := st'.ctr + 9, box := st'.box }).get i hlt
      have i1 := i1' .i64
      obtain ⟨pb, i2', hl2⟩ := (hy { ctr := st'.ctr + 9, box := st'.box }).get i hlt'
      have i2 := i2' .i64
      have hstep := fun h => upto2_step hall hlt hlt' h
      have hnot := fun h => upto2_no (p := eqI) hlt hlt' h
      have ene : ∀ kk, vbin Tryz.prog kk .neq 3 (.int .i64 a[i]) (.int .i64 b[i]) = some (.bool (!eqI a[i] b[i])) := fun kk => vbin_neq
      have w1 : IntKind.i64.wrap ((i : Int) + 1) = (i : Int) + 1 := wrap_i64 (by omega) (by omega)
      generalize eqI a[i] b[i] = mb at ene hstep hnot
      generalize a[i] = s at hl1 ene
      generalize b[i] = u at hl2 ene
      simp [h12, h13, elen]
      repeat refine Does.seq ?_
      refine Does.condT (by simp) ?_
      refine Does.skip ?_
      simp
      repeat refine Does.seq ?_
      refine Does.block ?_
      repeat refine Does.seq ?_
      refine Does.region ?_
      simp [h13]
      repeat refine Does.seq ?_
      refine Does.draw (b := [0, 0, 3, 7, 0, 0, 48, 112, 255]) (l := [0, 1, 2, 3, 4, 5, 6, 7, 8]) (by kernel_rfl) (by kernel_rfl) (by kernel_rfl) ?_
      simp [sameIn, h0, h1, i1, i2, hl1, hl2, veq_int, ene]
      repeat refine Does.seq ?_
      cases mb with
      | false =>
        refine Does.condT (by simp) ?_
        repeat refine Does.seq ?_
        refine Does.region ?_
        simp
        refine Does.ret ?_
        simp only [andThen, inBlock]
        exact ⟨hkt, by simp [hds], .inl ⟨rfl, by simp, by rw [← hA]; exact hnot rfl⟩⟩
      | true =>
        refine Does.condF (by simp) ?_
        refine Does.skip ?_
        simp only [andThen, inBlock]
        refine Does.region ?_
        simp [h13, vbin_add, w1]
        exact ⟨i + 1, by omega, hkt, by simp [hds], by simp [hg], by simp [h0], by simp [h1], by simp [h12], by simp, by omega, hstep rfl⟩
end Go.Vm
namespace Go.Vm
open Go Go.Proofs Go.Pa
attribute [local simp] Oks xOps vwanted isDefer vop kindOf vpure ev evs toV andThen inBlock atTo_some Fr.dsTo Fr.glTo Fr.toNone initFr_at initFr_ds initFr_gl veff traverse tupled vresult V.undef evOpt xDraw xStep
def sameF (f g : Fw) : Bool := (f.known == g.known) && decide (f.kind = g.kind) && decide (f.rest = g.rest) && decide (f.beside = g.beside) && all2 S.same f.names g.names && all2 eqI f.kids g.kids
theorem beq4 (a b kk : Bool) : vbin Tryz.prog kk .eql 4 (.bool a) (.bool b) = some (.bool (a == b)) := by cases a <;> cases b <;> cases kk <;> kernel_rfl
def newFact2 (st : St) (f g : Fw) : St := { ctr := st.ctr + 1 + 1, box := (st.box.put st.ctr (.cells f.cells 38 true (some 0))).put (st.ctr + 1) (.cells g.cells 38 true (some 0)) }
theorem newFact2_keep (st : St) (f g : Fw) : Keep st (newFact2 st f g) := ((Keep.refl st).new _).new _
theorem newFact2_a (st : St) (f g : Fw) : (newFact2 st f g).box.get st.ctr = some (.cells f.cells 38 true (some 0)) := by unfold newFact2; rw [Tr.get_put, if_neg (by omega), Tr.get_put, if_pos rfl]
theorem newFact2_b (st : St) (f g : Fw) : (newFact2 st f g).box.get (st.ctr + 1) = some (.cells g.cells 38 true (some 0)) := by unfold newFact2; rw [Tr.get_put, if_pos rfl]
theorem newFact2_ctr (st : St) (f g : Fw) : st.ctr + 1 < (newFact2 st f g).ctr := Nat.lt_succ_self _
def SfF (gl : Gl) (id1 : Nat) (fr : Fr) : Prop := fr.ds = [] ∧ fr.gl = gl ∧ Fr.at fr 2 = .ptr id1 0 ∧ Fr.at fr 3 = .ptr (id1 + 1) 0
variable [Memo] [NY]
set_option maxHeartbeats 1000000 in
set_option maxRecDepth 100000 in
theorem sameF_ok (gl : Gl) (st : St) (f g : Fw) (hf : f.ok) (hg' : g.ok) (hs : f.small) :
    ∃ v st', W Tryz.prog (.call gl 41 [.agg f.cells, .agg g.cells]) st = .call (.val v st') ∧ v = .bool (sameF f g) ∧ Keep st st' := by
  have hk42 : callable Tryz.prog 42 = true := by kernel_rfl
  have hk43 : callable Tryz.prog 43 = true := by kernel_rfl
  refine call_ex (NY.no _ rfl rfl rfl _ _) Tryz.func41 rfl (by kernel_rfl) ?_
  repeat refine Does.seq ?_
  refine Does.region ?_
  refine Oks.cont (Q := fun fr st' => st' = newFact2 st f g ∧ SfF gl st.ctr fr) ?r0 ?t0
  case r0 => as_aux_lemma =>
    have o1 := Fw.ones hf
    have o2 := Fw.ones hg'
    unfold newFact2
    generalize f.cells = fc at o1
    generalize g.cells = gc at o2
    simp [valloc, V.cells, o1, o2, mkRef]
    exact ⟨by simp, by simp, by simp, by simp⟩
  case t0 => as_aux_lemma =>
  have hk1 := newFact2_keep st f g
  have b1 := newFact2_a st f g
  have b2 := newFact2_b st f g
  have hct := newFact2_ctr st f g
  rintro fr st' ⟨hst', hds, hg, h2, h3⟩
  rw [hst']
  clear hst'
  revert hk1 b1 b2 hct
  generalize newFact2 st f g = st1
  generalize hid1 : st.ctr = id1 at h2 h3
  intro hk1 b1 b2 hct
  have l0 := vload_of (P := Tryz.prog) (off := 0) a4 z4 b1 rfl
  have l1 := vload_of (P := Tryz.prog) (off := 1) a5 z5 b1 rfl
  have l2 := vload_of (P := Tryz.prog) (off := 2) a23 z23 b1 rfl
  have l4 := vload_of (P := Tryz.prog) (off := 4) a3 z3 b1 rfl
  have l5 := vload_of (P := Tryz.prog) (off := 5) a3 z3 b1 rfl
  have k0 := vload_of (P := Tryz.prog) (off := 0) a4 z4 b2 rfl
  have k1 := vload_of (P := Tryz.prog) (off := 1) a5 z5 b2 rfl
  have k2 := vload_of (P := Tryz.prog) (off := 2) a23 z23 b2 rfl
  have k4 := vload_of (P := Tryz.prog) (off := 4) a3 z3 b2 rfl
  have k5 := vload_of (P := Tryz.prog) (off := 5) a3 z3 b2 rfl
  have f0 := fg0 id1
  have f1 := fg1 id1
  have f2 := fg2 id1
  have f3 := fg3 id1
  have f4 := fg4 id1
  have f5 := fg5 id1
  have g0 := fg0 (id1 + 1)
  have g1 := fg1 (id1 + 1)
  have g2 := fg2 (id1 + 1)
  have g3 := fg3 (id1 + 1)
  have g4 := fg4 (id1 + 1)
  have g5 := fg5 (id1 + 1)
  obtain ⟨v, st2, hc1, rfl, hkw⟩ := eqStrs_ok gl st1 f.nv g.nv f.names g.names (hf.names.vw _) (hg'.names.vw _) (by have := hs.names; omega)
  have hc1 := ihCall_W hc1
  have b1' : st2.box.get id1 = some (.cells f.cells 38 true (some 0)) := by rw [hkw.box _ (by omega)]; exact b1
  have b2' : st2.box.get (id1 + 1) = some (.cells g.cells 38 true (some 0)) := by rw [hkw.box _ hct]; exact b2
  have l3 := vload_of (P := Tryz.prog) (off := 3) a36 z36 b1' rfl
  have k3 := vload_of (P := Tryz.prog) (off := 3) a36 z36 b2' rfl
  obtain ⟨v, st3, hc2, rfl, hkk⟩ := eqInts_ok gl st2 f.kv g.kv f.kids g.kids hf.kids.ns hg'.kids.ns (by have := hs.kids; omega)
  have hc2 := ihCall_W hc2
  have e0 : ∀ kk, vbin Tryz.prog kk .eql 4 (.bool f.known) (.bool g.known) = some (.bool (f.known == g.known)) := fun kk => beq4 _ _ _
  have e1 : ∀ kk, vbin Tryz.prog kk .eql 5 (.int .u8 (f.kind : Int)) (.int .u8 (g.kind : Int)) = some (.bool (decide (f.kind = g.kind))) := fun kk => vI_eql rfl
  have e4 : ∀ kk, vbin Tryz.prog kk .eql 3 (.int .i64 f.rest) (.int .i64 g.rest) = some (.bool (decide (f.rest = g.rest))) := fun kk => vbin_eql
  have e5 : ∀ kk, vbin Tryz.prog kk .eql 3 (.int .i64 f.beside) (.int .i64 g.beside) = some (.bool (decide (f.beside = g.beside))) := fun kk => vbin_eql
  unfold sameF
  generalize all2 S.same f.names g.names = A at hc1
  generalize all2 eqI f.kids g.kids = B at hc2
  generalize decide (f.kind = g.kind) = K at e1
  generalize decide (f.rest = g.rest) = R at e4
  generalize decide (f.beside = g.beside) = S' at e5
  generalize (f.known == g.known) = N at e0
  generalize (f.kind : Int) = ki at e1 l1
  generalize (g.kind : Int) = ki2 at e1 k1
  generalize f.known = kn at e0 l0
  generalize g.known = kn2 at e0 k0
  clear b1 b2 b1' b2' hf hg' hs
  repeat refine Does.seq ?_
  refine Does.region ?_
  refine Oks.cut 13 (fun fr st' => AtSt st1 st' ∧ SfF gl id1 fr ∧ Fr.at fr 17 = .bool (N && K)) ?c1 ?c2
  case c1 => as_aux_lemma =>
    simp only [List.take]
    cases N with
    | false =>
      simp [h2, h3, f0, g0, l0, k0, e0]
      exact ⟨rfl, by simp [hds], by simp [hg], by simp [h2], by simp [h3]⟩
    | true =>
      simp [h2, h3, f0, g0, l0, k0, e0, f1, g1, l1, k1, e1]
      exact ⟨rfl, by simp [hds], by simp [hg], by simp [h2], by simp [h3]⟩
  case c2 => as_aux_lemma =>
  clear hds hg h2 h3
  rintro fr st' ⟨hst', ⟨hds, hg, h2, h3⟩, h17⟩
  rw [show st' = st1 from hst']
  clear hst'
  simp only [List.drop]
  generalize (N && K) = y1 at h17
  refine Oks.cut 7 (fun fr st' => AtSt st1 st' ∧ SfF gl id1 fr ∧ Fr.at fr 24 = .bool (y1 && R)) ?c3 ?c4
  case c3 => as_aux_lemma =>
    simp only [List.take]
    cases y1 with
    | false =>
      simp [h17]
      exact ⟨rfl, by simp [hds], by simp [hg], by simp [h2], by simp [h3]⟩
    | true =>
      simp [h17, h2, h3, f4, g4, l4, k4, e4]
      exact ⟨rfl, by simp [hds], by simp [hg], by simp [h2], by simp [h3]⟩
  case c4 => as_aux_lemma =>
  clear hds hg h2 h3 h17
  rintro fr st' ⟨hst', ⟨hds, hg, h2, h3⟩, h24⟩
  rw [show st' = st1 from hst']
  clear hst'
  simp only [List.drop]
  generalize (y1 && R) = y2 at h24
  refine Oks.cut 7 (fun fr st' => AtSt st1 st' ∧ SfF gl id1 fr ∧ Fr.at fr 31 = .bool (y2 && S')) ?c5 ?c6
  case c5 => as_aux_lemma =>
    simp only [List.take]
    cases y2 with
    | false =>
      simp [h24]
      exact ⟨rfl, by simp [hds], by simp [hg], by simp [h2], by simp [h3]⟩
    | true =>
      simp [h24, h2, h3, f5, g5, l5, k5, e5]
      exact ⟨rfl, by simp [hds], by simp [hg], by simp [h2], by simp [h3]⟩
  case c6 => as_aux_lemma =>
  clear hds hg h2 h3 h24
  rintro fr st' ⟨hst', ⟨hds, hg, h2, h3⟩, h31⟩
  rw [show st' = st1 from hst']
  clear hst'
  simp only [List.drop]
  generalize (y2 && S') = y3 at h31
  refine Oks.cut 7 (fun fr st' => (AtSt st1 st' ∨ AtSt st2 st') ∧ ((y3 && A) = true → AtSt st2 st') ∧ SfF gl id1 fr ∧ Fr.at fr 38 = .bool (y3 && A)) ?c7 ?c8
  case c7 => as_aux_lemma =>
    simp only [List.take]
    cases y3 with
    | false =>
      simp [h31]
      exact ⟨.inl rfl, by simp [hds], by simp [hg], by simp [h2], by simp [h3]⟩
    | true =>
      simp [h31, h2, h3, f2, g2, l2, k2, hg, vcall_callable hk42, hc1]
      exact ⟨.inr rfl, fun _ => rfl, by simp [hds], by simp [hg], by simp [h2], by simp [h3]⟩
  case c8 => as_aux_lemma =>
  clear hds hg h2 h3 h31
  rintro fr st' ⟨hst', hst2, ⟨hds, hg, h2, h3⟩, h38⟩
  simp only [List.drop]
  have hkst : Keep st st' := by
    rcases hst' with h | h
    · rw [show st' = st1 from h]; exact hk1
    · rw [show st' = st2 from h]; exact hk1.trans hkw
  generalize (y3 && A) = y4 at h38 hst2
  cases y4 with
  | false =>
    simp [h38]
    refine Does.ret ?_
    simp [hds]
    exact hkst
  | true =>
    rw [show st' = st2 from hst2 rfl]
    simp [h38, h2, h3, f3, g3, l3, k3, hg, vcall_callable hk43, hc2]
    refine Does.ret ?_
    simp [hds]
    exact (hk1.trans hkw).trans hkk
set_option maxRecDepth 100000 in
theorem equalF_ok (gl : Gl) (st : St) (x y : V) (ks ms : List Fw) (hx : Row Fw.cells x ks) (hy : Row Fw.cells y ms) (hok : ∀ c ∈ ks, c.ok) (hok' : ∀ c ∈ ms, c.ok) (hl : ks.length < 1000000)  (hs : ∀ c ∈ ks, c.small) :
    ∃ v st', W Tryz.prog (.call gl 40 [x, y, .fn 41 [] []]) st = .call (.val v st') ∧ v = .bool (all2 sameF ks ms) ∧ Keep st st' := by
  have hkf : callable Tryz.prog 41 = true := by kernel_rfl
  have lx := hx.len Tryz.underlying22
  have ly := hy.len Tryz.underlying22
  refine call_ex (NY.no _ rfl rfl rfl _ _) Tryz.func40 rfl (by kernel_rfl) ?_
  repeat refine Does.seq ?_
  refine Does.region ?_
  simp
  repeat refine Does.seq ?_
  refine Does.region ?_
  have en : ∀ kk, vbin Tryz.prog kk .neq 3 (.int .i64 (ks.length : Int)) (.int .i64 (ms.length : Int)) = some (.bool (!decide (ks.length = ms.length))) := fun kk => vI_neq rfl
  generalize hA : all2 sameF ks ms = A
  by_cases hlen : ks.length = ms.length
  rotate_left
  · rw [decide_eq_false hlen] at en
    simp [lx, ly, en]
    repeat refine Does.seq ?_
    refine Does.condT (by simp) ?_
    repeat refine Does.seq ?_
    refine Does.region ?_
    simp
    refine Does.ret ?_
    rw [all2_len hlen] at hA
    simp [← hA]
    exact .refl _
  rw [decide_eq_true hlen] at en
  simp [lx, ly, en]
  repeat refine Does.seq ?_
  refine Does.condF (by simp) ?_
  refine Does.skip ?_
  simp
  repeat refine Does.seq ?_
  refine Does.region ?_
  simp [lx]
  repeat refine Does.seq ?_
  refine Does.mono (Q := EqQ st 6 A) ?loop ?tail
  case tail => as_aux_lemma =>
    rintro e fr' st' ⟨hk, hds, ⟨rfl, h2, hc⟩ | ⟨rfl, hc⟩⟩
    · simp only [andThen]
      simp [hds, h2, hc, hk]
    · simp only [andThen]
      repeat refine Does.seq ?_
      refine Does.region ?_
      simp
      refine Does.ret ?_
      simp [hds, hc, hk]
  case loop => as_aux_lemma =>
    refine Does.block (Does.up ks.length (fun i fr st' => Keep st st' ∧ fr.ds = [] ∧ fr.gl = gl ∧ Fr.at fr 0 = x ∧ Fr.at fr 1 = y ∧ Fr.at fr 2 = .fn 41 [] [] ∧ Fr.at fr 15 = x ∧ Fr.at fr 16 = .int .i64 (ks.length : Int) ∧ Fr.at fr 17 = .int .i64 (i : Int) ∧ i ≤ ks.length ∧ Upto2 sameF ks ms i) 0 ?init ?bound ?step)
    case init => exact ⟨.refl st, by simp, by simp, by simp, by simp, by simp, by simp, by simp, by simp, Nat.zero_le _, upto2_zero _ _ _⟩
    case bound => exact fun i fr st' h => h.2.2.2.2.2.2.2.2.2.1
    case step =>
      rintro i fr st' ⟨hk, hds, hg, h0, h1, h2, h15, h16, h17, hi, hall⟩
      have elen : ∀ kk, vbin Tryz.prog kk .lss 3 (.int .i64 (i : Int)) (.int .i64 (ks.length : Int)) = some (.bool (decide (i < ks.length))) := fun kk => vI_lss rfl
      repeat refine Does.seq ?_
      refine Does.region ?_
      by_cases hlt : i < ks.length
      rotate_left
      · rw [decide_eq_false hlt] at elen
        simp [h16, h17, elen]
        repeat refine Does.seq ?_
        refine Does.condF (by simp) ?_
        refine Does.exit ?_
        simp only [inBlock, if_true, andThen]
        exact ⟨hk, by simp [hds], .inr ⟨rfl, by rw [← hA]; exact upto2_end hlen hall (by omega)⟩⟩
      · rw [decide_eq_true hlt] at elen
        have hlt' : i < ms.length := by omega
        obtain ⟨r, g1⟩ := hx.get (z := 6) (fun c _ => c.len6) Tryz.underlying22 z38 hlt
        have i1 := g1 .i64
        obtain ⟨r', g1'⟩ := hy.get (z := 6) (fun c _ => c.len6) Tryz.underlying22 z38 hlt'
        have i2 := g1' .i64
        have hm := List.getElem_mem hlt
        have hm' := List.getElem_mem hlt'
        have hld := load38 ks[i] r st'
        have hpk := putFact_keep st' ks[i]
        have hpb := putFact_box st' ks[i]
        have hps := putFact_store st' (hok _ hm)
        have hpc := putFact_ctr st' ks[i]
        have hstep := fun h => upto2_step hall hlt hlt' h
        have hnot := fun h => upto2_no (p := sameF) hlt hlt' h
        have hcall := sameF_ok gl (putFact (putFact st' ks[i]) ms[i]) ks[i] ms[i] (hok _ hm) (hok' _ hm') (hs _ hm)
        have w1 : IntKind.i64.wrap ((i : Int) + 1) = (i : Int) + 1 := wrap_i64 (by omega) (by omega)
        generalize putFact st' ks[i] = st3 at hpk hps hpb hpc hcall
        have hld2 := load38 ms[i] r' st3
        have hqk := putFact_keep st3 ms[i]
        have hqb := putFact_box st3 ms[i]
        have hqs := putFact_store st3 (hok' _ hm')
        generalize putFact st3 ms[i] = st4 at hqk hqs hqb hcall
        have hl2 := vload38 hqb
        have hl1 := vload38 (st := st4) (by rw [hqk.box _ hpc]; exact hpb)
        obtain ⟨v, st5, hc, rfl, hk5⟩ := hcall
        have hc := ihCall_W hc
        clear hpb hqb
        generalize sameF ks[i] ms[i] = mb at hc hstep hnot
        generalize ks[i].cells = cs at hld hc i1 hps hl1
        generalize ms[i].cells = cs' at hld2 hc i2 hqs hl2
        simp [h16, h17, elen]
        repeat refine Does.seq ?_
        refine Does.condT (by simp) ?_
        refine Does.skip ?_
        simp
        repeat refine Does.seq ?_
        refine Does.block ?_
        repeat refine Does.seq ?_
        refine Does.region ?_
        simp [h15, h17, i1, hld, valloc, zs38, V.cells, oneC, mkRef, vact, hps]
        repeat refine Does.seq ?_
        refine Does.region ?_
        simp [h1, i2, hld2, valloc, zs38, V.cells, oneC, mkRef, vact, hqs]
        repeat refine Does.seq ?_
        refine Does.region ?_
        simp [h2, hl1, hl2, hg, vcall_callable hkf, hc]
        repeat refine Does.seq ?_
        have hkk := ((hk.trans hpk).trans hqk).trans hk5
        cases mb with
        | false =>
          refine Does.condT (by simp) ?_
          repeat refine Does.seq ?_
          refine Does.region ?_
          simp
          refine Does.ret ?_
          simp only [andThen, inBlock]
          exact ⟨hkk, by simp [hds], .inl ⟨rfl, by simp, by rw [← hA]; exact hnot rfl⟩⟩
        | true =>
          refine Does.condF (by simp) ?_
          refine Does.skip ?_
          simp only [andThen, inBlock]
          refine Does.region ?_
          simp [h17, vbin_add, w1]
          exact ⟨i + 1, by omega, hkk, by simp [hds], by simp [hg], by simp [h0], by simp [h1], by simp [h2], by simp [h15], by simp [h16], by simp, by omega, hstep rfl⟩
theorem wSameP_ok (gl : Gl) (st : St) (x y : V) (a b : List Fw) (hx : Row Fw.cells x a) (hy : Row Fw.cells y b) (hok : ∀ f ∈ a, f.ok) (hok' : ∀ f ∈ b, f.ok) (hs : ∀ f ∈ a, f.small) (hl : a.length < 1000000) :
    ∃ v st', W Tryz.prog (.call gl 19 [x, y]) st = .call (.val v st') ∧ v = .bool (all2 sameF a b) ∧ Keep st st' := by
  have hk40 : callable Tryz.prog 40 = true := by kernel_rfl
  obtain ⟨v, st1, hc, rfl, hk⟩ := equalF_ok gl st x y a b hx hy hok hok' hl hs
  have hc := ihCall_W hc
  generalize all2 sameF a b = A at hc
  refine call_ex (NY.no _ rfl rfl rfl _ _) Tryz.func19 rfl (by kernel_rfl) ?_
  repeat refine Does.seq ?_
  refine Does.region ?_
  simp
  repeat refine Does.seq ?_
  refine Does.region ?_
  simp [vcall_callable hk40, hc]
  refine Does.ret ?_
  simp
  exact hk
end Go.Vm
namespace Go.Vm
open Go Go.Proofs Go.Pa
attribute [local simp] Oks xOps vwanted isDefer vop kindOf vpure ev evs toV andThen inBlock atTo_some Fr.dsTo Fr.glTo Fr.toNone initFr_at initFr_ds initFr_gl veff traverse tupled vresult V.undef evOpt xDraw xStep
theorem same_self (s : S) : s.same s = true := by rw [S.same_eq]; simp
variable [Memo] [NY]
theorem nan53 (gl : Gl) (st : St) (s : S) : W Tryz.prog (.call gl 53 [.str s]) st = .call (.val (.bool false) st) := by
  have h := same_self s
  refine call_does (NY.no _ rfl rfl rfl _ _) Tryz.func53 rfl (by kernel_rfl) ?_
  repeat refine Does.seq ?_
  refine Does.region ?_
  simp
  repeat refine Does.seq ?_
  refine Does.region ?_
  simp [vbin_sneq, h]
  refine Does.ret ?_
  simp []
theorem nan66 (gl : Gl) (st : St) (s : S) : W Tryz.prog (.call gl 66 [.str s]) st = .call (.val (.bool false) st) := by
  have h := same_self s
  refine call_does (NY.no _ rfl rfl rfl _ _) Tryz.func66 rfl (by kernel_rfl) ?_
  repeat refine Does.seq ?_
  refine Does.region ?_
  simp
  repeat refine Does.seq ?_
  refine Does.region ?_
  simp [vbin_sneq, h]
  refine Does.ret ?_
  simp []
theorem cmpLess_ok (gl : Gl) (st : St) (a b : S) : W Tryz.prog (.call gl 52 [.str a, .str b]) st = .call (.val (.bool (a.less b)) st) := by
  have hk66 : callable Tryz.prog 66 = true := by kernel_rfl
  have h := ihCall_W (nan66 gl st a)
  have el : ∀ kk, vbin Tryz.prog kk .lss 9 (.str a) (.str b) = some (.bool (a.less b)) := fun kk => rfl
  generalize a.less b = d at el
  refine call_does (NY.no _ rfl rfl rfl _ _) Tryz.func52 rfl (by kernel_rfl) ?_
  repeat refine Does.seq ?_
  refine Does.region ?_
  simp
  repeat refine Does.seq ?_
  refine Does.region ?_
  simp [vcall_callable hk66, h, el]
  refine Does.ret ?_
  simp []
end Go.Vm
namespace Go.Vm
open Go Go.Proofs Go.Pa
theorem bl_irr : ∀ l : List UInt8, Op.bytesLess l l = false
  | [] => rfl
  | a :: l => by
    rw [Op.bytesLess, bl_irr l, Bool.and_false, Bool.or_false]
    simp
theorem bl_total : ∀ a b : List UInt8, Op.bytesLess a b = false → Op.bytesLess b a = false → a = b
  | [], [], _, _ => rfl
  | [], b :: y, h, _ => by cases h
  | a :: x, [], _, h => by cases h
  | a :: x, b :: y, h, k => by
    rw [Op.bytesLess, Bool.or_eq_false_iff] at h k
    have h1 : ¬ a < b := by simpa using h.1
    have k1 : ¬ b < a := by simpa using k.1
    have he : a = b := by
      apply UInt8.toNat_inj.1
      rw [UInt8.lt_iff_toNat_lt] at h1 k1
      omega
    subst he
    have h2 : Op.bytesLess x y = false := by simpa using h.2
    have k2 : Op.bytesLess y x = false := by simpa using k.2
    rw [bl_total x y h2 k2]
theorem bl_trans : ∀ a b c : List UInt8, Op.bytesLess a b = true → Op.bytesLess b c = true → Op.bytesLess a c = true
  | [], [], _, h, _ => by cases h
  | _ :: _, [], _, h, _ => by cases h
  | _, _ :: _, [], _, k => by cases k
  | [], _ :: _, _ :: _, _, _ => rfl
  | a :: x, b :: y, c :: z, h, k => by
    rw [Op.bytesLess, Bool.or_eq_true, Bool.and_eq_true] at h k ⊢
    simp only [decide_eq_true_eq, beq_iff_eq, UInt8.lt_iff_toNat_lt] at h k ⊢
    rcases h with h | ⟨rfl, h⟩
    · rcases k with k | ⟨rfl, k⟩
      · exact .inl (by omega)
      · exact .inl h
    · rcases k with k | ⟨rfl, k⟩
      · exact .inl k
      · exact .inr ⟨rfl, bl_trans x y z h k⟩
theorem less_trans {a b c : S} (h : a.less b = true) (k : b.less c = true) : a.less c = true := by
  rw [S.less_eq] at *; exact bl_trans _ _ _ h k
theorem less_total {a b : S} (h : a.less b = false) (k : b.less a = false) : a.same b = true := by
  rw [S.less_eq] at h k
  rw [S.same_eq, bl_total _ _ h k]; simp
theorem same_toList {a b : S} (h : a.same b = true) : a.toList = b.toList := by rw [S.same_eq] at h; simpa using h
theorem less_same {a b c : S} (h : a.less b = true) (k : b.same c = true) : a.less c = true := by
  rw [S.less_eq] at *; rw [← same_toList k]; exact h
theorem same_less {a b c : S} (h : a.same b = true) (k : b.less c = true) : a.less c = true := by
  rw [S.less_eq] at *; rw [same_toList h]; exact k
theorem less_not_same {a b : S} (h : a.less b = true) : a.same b = false := by
  cases k : a.same b with
  | false => rfl
  | true =>
    rw [S.less_eq, same_toList k, bl_irr] at h; cases h
def Sorted (l : List S) : Prop := ∀ i j (hj : j < l.length) (hij : i < j), (l[i]'(by omega)).less l[j] = true
theorem sorted_of {l : List S} (h : namesOk l = true) : Sorted l := by
  have hstep : ∀ i (hi : i + 1 < l.length), l[i].less l[i + 1] = true := fun i hi => by
    unfold namesOk at h
    rw [List.all_eq_true] at h
    have := h (i + 1) (List.mem_range.2 hi)
    unfold badAt at this
    rw [List.getD_eq_getElem?_getD, List.getElem?_eq_getElem hi, List.getD_eq_getElem?_getD, List.getElem?_eq_getElem (by omega : i + 1 - 1 < l.length)] at this
    simp only [Option.getD_some, Nat.add_sub_cancel, leS] at this
    rw [Bool.not_eq_true', Bool.or_eq_false_iff, Bool.and_eq_false_iff] at this
    have h2 : (l[i + 1].less l[i] || l[i + 1].same l[i]) = false := this.2.resolve_left (by simp)
    rw [Bool.or_eq_false_iff] at h2
    cases hl : l[i].less l[i + 1] with
    | true => rfl
    | false =>
      have h3 := less_total h2.1 hl
      rw [h2.2] at h3; cases h3
  intro i j hj hij
  induction j with
  | zero => omega
  | succ j ih =>
    by_cases he : i = j
    · subst he; exact hstep i hj
    · exact less_trans (ih (by omega) (by omega)) (hstep j hj)
end Go.Vm
namespace Go.Vm
open Go Go.Proofs Go.Pa
attribute [local simp] Oks xOps vwanted isDefer vop kindOf vpure ev evs toV andThen inBlock atTo_some Fr.dsTo Fr.glTo Fr.toNone initFr_at initFr_ds initFr_gl veff traverse tupled vresult V.undef evOpt xDraw xStep
set_option maxRecDepth 100000 in
theorem vconv_up {st : St} {n : Nat} (hn : n < 1000000) : vconv Tryz.prog st 3 86 (.int .i64 (n : Int)) = some (.int .u64 (n : Int)) := by
  have h : vconv Tryz.prog st 3 86 (.int .i64 (n : Int)) = viaSem Tryz.prog (fun l => convert 3 86 (l.getD 0 undef)) [.int .i64 (n : Int)] := by
    simp only [vconv, Tryz.underlying3, Tryz.underlying86]
  rw [h]
  simp only [viaSem, traverse, ofV]
  have h2 : unSem Tryz.prog (convert 3 86 (.int .i64 (n : Int))) = some (.int .u64 (IntKind.u64.wrap (n : Int))) := by
    simp only [convert, unSem_bind_eq, unSem_underlying Tryz.underlying3, unSem_underlying Tryz.underlying86, Option.bind_some]
    rfl
  have h3 : IntKind.u64.wrap (n : Int) = (n : Int) := by
    simp [IntKind.wrap, IntKind.bits, IntKind.signed]
    omega
  show (match unSem Tryz.prog (convert 3 86 (.int .i64 (n : Int))) with
    | some v => toV 6 v
    | none => none) = _
  rw [h2, h3]
  rfl
set_option maxRecDepth 100000 in
theorem vconv_dn {st : St} {n : Nat} (hn : n < 1000000) : vconv Tryz.prog st 86 3 (.int .u64 (n : Int)) = some (.int .i64 (n : Int)) := by
  have h : vconv Tryz.prog st 86 3 (.int .u64 (n : Int)) = viaSem Tryz.prog (fun l => convert 86 3 (l.getD 0 undef)) [.int .u64 (n : Int)] := by
    simp only [vconv, Tryz.underlying3, Tryz.underlying86]
  rw [h]
  simp only [viaSem, traverse, ofV]
  have h2 : unSem Tryz.prog (convert 86 3 (.int .u64 (n : Int))) = some (.int .i64 (IntKind.i64.wrap (n : Int))) := by
    simp only [convert, unSem_bind_eq, unSem_underlying Tryz.underlying3, unSem_underlying Tryz.underlying86, Option.bind_some]
    rfl
  have h3 : IntKind.i64.wrap (n : Int) = (n : Int) := wrap_i64 (by omega) (by omega)
  show (match unSem Tryz.prog (convert 86 3 (.int .u64 (n : Int))) with
    | some v => toV 6 v
    | none => none) = _
  rw [h2, h3]
  rfl
theorem vbin_half {P : Program} {kk : Bool} {T : TypeId} (n : Nat) : vbin P kk .shr T (.int .u64 (n : Int)) (.int .u64 1) = some (.int .u64 ((n / 2 : Nat) : Int)) := by
  have h : vbin P kk .shr T (.int .u64 (n : Int)) (.int .u64 1) = viaSem P (fun l => binOp .shr T (l.getD 0 undef) (l.getD 1 undef)) [.int .u64 (n : Int), .int .u64 1] := by simp [vbin]
  rw [h]
  have h2 : unSem P (binOp .shr T (.int .u64 (n : Int)) (.int .u64 1)) = some (.int .u64 ((n : Int).fdiv (2 ^ (min 1 64)))) := rfl
  simp only [viaSem, traverse, ofV]
  show (match unSem P (binOp .shr T (.int .u64 (n : Int)) (.int .u64 1)) with
    | some v => toV 6 v
    | none => none) = _
  rw [h2]
  have h3 : (n : Int).fdiv (2 ^ (min 1 64)) = ((n / 2 : Nat) : Int) := by
    show (n : Int).fdiv 2 = _
    rw [Int.fdiv_eq_ediv_of_nonneg _ (by decide)]
    rfl
  rw [h3]
  rfl
def FoundR (l : List S) (s : S) (v : V) : Prop := ∃ (i : Nat) (b : Bool), v = .tup [.int .i64 (i : Int), .bool b] ∧ (b = true → ∃ h : i < l.length, l[i].same s = true) ∧ (b = false → ∀ (j : Nat) (h : j < l.length), l[j].same s = false)
theorem FoundR.no {l : List S} {s : S} (i : Nat) (h : ∀ (j : Nat) (h : j < l.length), l[j].same s = false) : FoundR l s (.tup [.int .i64 (i : Int), .bool false]) := ⟨i, false, rfl, fun h => (by cases h), fun _ => h⟩
def BsI (gl : Gl) (x : V) (s : S) (n lo hi : Nat) (fr : Fr) : Prop := fr.ds = [] ∧ fr.gl = gl ∧ Fr.at fr 0 = x ∧ Fr.at fr 1 = .str s ∧ Fr.at fr 6 = .int .i64 (n : Int) ∧ Fr.at fr 7 = .int .i64 (lo : Int) ∧ Fr.at fr 8 = .int .i64 (hi : Int)
def BsL (l : List S) (s : S) (lo hi : Nat) : Prop := lo ≤ hi ∧ hi ≤ l.length ∧ (∀ (j : Nat) (h : j < l.length), j < lo → l[j].less s = true) ∧ (∀ (j : Nat) (h : j < l.length), hi ≤ j → l[j].less s = false)
variable [Memo] [NY]
set_option maxRecDepth 100000 in
theorem bsearch_ok (gl : Gl) (st : St) (x : V) (l : List S) (s : S) (hx : Vw st x l) (hl : l.length ≤ 60) (hsort : Sorted l) :
    ∃ v st', W Tryz.prog (.call gl 33 [x, .str s]) st = .call (.val v st') ∧ FoundR l s v ∧ AtSt st st' := by
  have hk52 : callable Tryz.prog 52 = true := by kernel_rfl
  have hk53 : callable Tryz.prog 53 = true := by kernel_rfl
  have lx := hx.len Tryz.underlying23
  refine call_ex (NY.no _ rfl rfl rfl _ _) Tryz.func33 rfl (by kernel_rfl) ?_
  repeat refine Does.seq ?_
  refine Does.region ?_
  simp
  repeat refine Does.seq ?_
  refine Does.region ?_
  simp [lx]
  repeat refine Does.seq ?_
  refine Does.region ?_
  simp
  repeat refine Does.seq ?_
  refine Does.mono (Q := fun e fr st' => e = AE.normal ∧ AtSt st st' ∧ ∃ lo, BsI gl x s l.length lo lo fr ∧ BsL l s lo lo) ?loop ?tail
  case loop => as_aux_lemma =>
    refine Does.block (Does.inv (fun n fr st' => ∃ lo hi, n = hi - lo ∧ AtSt st st' ∧ BsI gl x s l.length lo hi fr ∧ BsL l s lo hi) l.length ⟨0, l.length, rfl, rfl, ⟨by simp, by simp, by simp, by simp, by simp, by simp, by simp⟩, Nat.zero_le _, Nat.le_refl _, fun j _ h => absurd h (Nat.not_lt_zero j), fun j h h2 => by omega⟩ ?step)
    case step =>
      rintro n fr st' ⟨lo, hi, rfl, hst', ⟨hds, hg, h0, h1, h6, h7, h8⟩, hle, hhn, hlo, hhi⟩
      rw [show st' = st from hst']
      clear hst'
      have elen : ∀ kk, vbin Tryz.prog kk .lss 3 (.int .i64 (lo : Int)) (.int .i64 (hi : Int)) = some (.bool (decide (lo < hi))) := fun kk => vI_lss rfl
      repeat refine Does.seq ?_
      refine Does.region ?_
      by_cases hlt : lo < hi
      rotate_left
      · rw [decide_eq_false hlt] at elen
        simp [h7, h8, elen]
        repeat refine Does.seq ?_
        refine Does.condF (by simp) ?_
        refine Does.exit ?_
        simp only [inBlock, if_true, andThen]
        have : hi = lo := by omega
        subst this
        exact ⟨trivial, rfl, hi, ⟨by simp [hds], by simp [hg], by simp [h0], by simp [h1], by simp [h6], by simp [h7], by simp [h8]⟩, hle, hhn, hlo, hhi⟩
      rw [decide_eq_true hlt] at elen
      have wa : IntKind.i64.wrap ((lo : Int) + (hi : Int)) = ((lo + hi : Nat) : Int) := wrap_add (by omega)
      simp [h7, h8, elen]
      repeat refine Does.seq ?_
      refine Does.condT (by simp) ?_
      refine Does.skip ?_
      simp
      repeat refine Does.seq ?_
      refine Does.block ?_
      repeat refine Does.seq ?_
      refine Does.region ?_
      have c1 := vconv_up (st := st) (n := lo + hi) (by omega)
      have c2 : ∀ kk, vbin Tryz.prog kk .shr 86 (.int .u64 ((lo + hi : Nat) : Int)) (.int .u64 1) = some (.int .u64 (((lo + hi) / 2 : Nat) : Int)) := fun kk => vbin_half (lo + hi)
      have hfd : IntKind.i64.wrap (((lo + hi : Nat) : Int).fdiv (2 ^ min 1 IntKind.u64.bits)) = (((lo + hi) / 2 : Nat) : Int) := by
        have h3 : ((lo + hi : Nat) : Int).fdiv (2 ^ (min 1 IntKind.u64.bits)) = (((lo + hi) / 2 : Nat) : Int) := by
          show ((lo + hi : Nat) : Int).fdiv 2 = _
          rw [Int.fdiv_eq_ediv_of_nonneg _ (by decide)]
          rfl
        rw [h3, wrap_i64 (by omega) (by omega)]
      have wm : IntKind.i64.wrap (((lo + hi) / 2 : Nat) : Int) = (((lo + hi) / 2 : Nat) : Int) := wrap_i64 (by omega) (by omega)
      have c3 := vconv_dn (st := st) (n := (lo + hi) / 2) (by omega)
      have hm1 : lo ≤ (lo + hi) / 2 := by omega
      have hm2 : (lo + hi) / 2 < hi := by omega
      generalize (lo + hi) / 2 = mid at c2 c3 hm1 hm2 hfd wm
      generalize lo + hi = sum at wa c1 c2 hfd
      simp [h7, h8, vbin_add, wa, Tryz.underlying3, Tryz.underlying86, c1, c2, c3]
      repeat refine Does.seq ?_
      refine Does.region ?_
      have hml : mid < l.length := by omega
      obtain ⟨pa, i1, hl1⟩ := hx.get Tryz.underlying23 z9 a9 hml (k := .i64)
      have hga : l.getD mid ⟨0, 0⟩ = l[mid] := by rw [List.getD_eq_getElem?_getD, List.getElem?_eq_getElem hml]; rfl
      rw [hga] at hl1
      have hc := ihCall_W (cmpLess_ok gl st l[mid] s)
      have hup : l[mid].less s = true → BsL l s (mid + 1) hi := fun h => ⟨by omega, hhn, fun j hj hjm => by
        by_cases he : j = mid
        · subst he; exact h
        · exact less_trans (hsort j mid hml (by omega)) h, hhi⟩
      have hdn : l[mid].less s = false → BsL l s lo mid := fun h => ⟨hm1, by omega, hlo, fun j hj hjm => by
        by_cases he : j = mid
        · subst he; exact h
        · cases hls : l[j].less s with
          | false => rfl
          | true => rw [less_trans (hsort mid j hj (by omega)) hls] at h; cases h⟩
      have w1 : IntKind.i64.wrap ((mid : Int) + 1) = ((mid + 1 : Nat) : Int) := by rw [wrap_i64 (by omega) (by omega)]; rfl
      clear hga
      generalize l[mid].less s = d at hc hup hdn
      generalize l[mid] = lm at hl1 hc
      simp [h0, h1, i1, hl1, hg, vcall_callable hk52, hc]
      repeat refine Does.seq ?_
      cases d with
      | true =>
        refine Does.condT (by simp) ?_
        repeat refine Does.seq ?_
        refine Does.region ?_
        simp [vbin_add, w1]
        exact ⟨hi - (mid + 1), by omega, mid + 1, hi, rfl, rfl, ⟨by simp [hds], by simp [hg], by simp [h0], by simp [h1], by simp [h6], by simp, by simp [h8]⟩, hup rfl⟩
      | false =>
        refine Does.condF (by simp) ?_
        repeat refine Does.seq ?_
        refine Does.region ?_
        simp
        exact ⟨mid - lo, by omega, lo, mid, rfl, rfl, ⟨by simp [hds], by simp [hg], by simp [h0], by simp [h1], by simp [h6], by simp [h7], by simp⟩, hdn rfl⟩
  case tail => as_aux_lemma =>
    rintro e fr st' ⟨rfl, hst', lo, ⟨hds, hg, h0, h1, h6, h7, h8⟩, _, hhn, hlo, hhi⟩
    rw [show st' = st from hst']
    clear hst'
    simp only [andThen]
    have elen : ∀ kk, vbin Tryz.prog kk .lss 3 (.int .i64 (lo : Int)) (.int .i64 (l.length : Int)) = some (.bool (decide (lo < l.length))) := fun kk => vI_lss rfl
    repeat refine Does.seq ?_
    refine Does.region ?_
    refine Oks.cut 5 (fun fr st' => AtSt st st' ∧ fr.ds = [] ∧ fr.gl = gl ∧ Fr.at fr 0 = x ∧ Fr.at fr 1 = .str s ∧ Fr.at fr 7 = .int .i64 (lo : Int) ∧ Fr.at fr 31 = .int .i64 (lo : Int) ∧ Fr.at fr 35 = .bool (decide (lo < l.length))) ?d1 ?d2
    case d1 => as_aux_lemma =>
      simp only [List.take]
      generalize decide (lo < l.length) = d at elen
      simp [h0, h1, h6, h7, elen, hds, hg]
      exact rfl
    case d2 => as_aux_lemma =>
    clear hds hg h0 h1 h6 h7 h8
    rintro fr st' ⟨hst', hds, hg, h0, h1, h7, h31, h35⟩
    rw [show st' = st from hst']
    clear hst'
    simp only [List.drop]
    by_cases hlt : lo < l.length
    rotate_left
    · rw [decide_eq_false hlt] at h35
      have hf : FoundR l s (.tup [.int .i64 (lo : Int), .bool false]) := FoundR.no lo (fun j hj => less_not_same (hlo j hj (by omega)))
      clear hlo hhi hsort
      refine Oks.cut 9 (fun fr st' => AtSt st st' ∧ fr.ds = [] ∧ Fr.at fr 31 = .int .i64 (lo : Int) ∧ Fr.at fr 35 = .bool false ∧ Fr.at fr 42 = .tup []) ?d3 ?d4
      case d3 => as_aux_lemma =>
        simp only [List.take]
        simp [h31, h35, hds]
        exact rfl
      case d4 => as_aux_lemma =>
      clear hds hg h0 h1 h7 h31 h35
      rintro fr st' ⟨hst', hds, h31, h35, h42⟩
      rw [show st' = st from hst']
      clear hst'
      simp only [List.drop]
      simp [h31, h35, h42]
      refine Does.ret ?_
      simp [hds]
      exact ⟨hf, rfl⟩
    rw [decide_eq_true hlt] at h35
    obtain ⟨pa, i1, hl1⟩ := hx.get Tryz.underlying23 z9 a9 hlt (k := .i64)
    have hga : l.getD lo ⟨0, 0⟩ = l[lo] := by rw [List.getD_eq_getElem?_getD, List.getElem?_eq_getElem hlt]; rfl
    rw [hga] at hl1
    clear hga
    have hn1 := ihCall_W (nan53 gl st l[lo])
    have hres : l[lo].same s = false → ∀ (j : Nat) (h : j < l.length), l[j].same s = false := fun h j hj => by
      by_cases h1 : j < lo
      · exact less_not_same (hlo j hj h1)
      · by_cases h2 : j = lo
        · subst h2; exact h
        · cases hs : l[j].same s with
          | false => rfl
          | true =>
            have := less_same (hsort lo j hj (by omega)) hs
            rw [hhi lo hlt (Nat.le_refl _)] at this; cases this
    have hyes : l[lo].same s = true → ∃ h : lo < l.length, l[lo].same s = true := fun h => ⟨hlt, h⟩
    have hfound : ∀ b, l[lo].same s = b → FoundR l s (.tup [.int .i64 (lo : Int), .bool b]) := fun b hb => ⟨lo, b, rfl, fun h => ⟨hlt, by rw [hb, h]⟩, fun h => hres (by rw [hb, h])⟩
    have hf := hfound _ rfl
    generalize hes : l[lo].same s = es at hf
    generalize l[lo] = lm at hl1 hn1 hes
    clear hfound hyes hres hlo hhi hsort
    refine Oks.cut 7 (fun fr st' => AtSt st st' ∧ fr.ds = [] ∧ fr.gl = gl ∧ Fr.at fr 0 = x ∧ Fr.at fr 1 = .str s ∧ Fr.at fr 7 = .int .i64 (lo : Int) ∧ Fr.at fr 31 = .int .i64 (lo : Int) ∧ Fr.at fr 35 = .bool true ∧ Fr.at fr 42 = .bool es) ?c1 ?c2
    case c1 => as_aux_lemma =>
      simp only [List.take]
      simp [h0, h1, h7, h31, h35, i1, hl1, vbin_seql, hes, hds, hg]
      exact rfl
    case c2 => as_aux_lemma =>
    clear hds hg h0 h1 h7 h31 h35
    rintro fr st' ⟨hst', hds, hg, h0, h1, h7, h31, h35, h42⟩
    rw [show st' = st from hst']
    clear hst'
    simp only [List.drop]
    cases es with
    | true =>
      simp [h31, h35, h42]
      refine Does.ret ?_
      simp [hds]
      exact ⟨hf, rfl⟩
    | false =>
      simp [h0, h7, h31, h35, h42, i1, hl1, hg, vcall_callable hk53, hn1]
      refine Does.ret ?_
      simp [hds]
      exact ⟨hf, rfl⟩
end Go.Vm
