/- Rows that are the same, as the program asks. The same commands, as the program asks. The same commands, as the document asks. How much a command weighs: some number. -/
import Derived.Test.YtebpfgkajjljjaaSy6
namespace Go.Vm
open Go Go.Proofs Go.Sy
attribute [local simp] Oks xOps vwanted isDefer vop kindOf vpure ev evs toV andThen inBlock atTo_some Fr.dsTo Fr.glTo Fr.toNone initFr_at initFr_ds initFr_gl veff traverse tupled vresult V.undef evOpt xDraw xStep

def all2 {α : Type} (p : α → α → Bool) : List α → List α → Bool
  | [], [] => true
  | a :: l, b :: m => p a b && all2 p l m
  | _, _ => false
theorem all2_len {α : Type} {p : α → α → Bool} : ∀ {l m : List α}, ¬ l.length = m.length → all2 p l m = false
  | [], [], h => absurd rfl h
  | [], b :: m, _ => rfl
  | a :: l, [], _ => rfl
  | a :: l, b :: m, h => by rw [all2, all2_len (fun e => h (by simp [e])), Bool.and_false]
/-- the first so many are the same -/
def Upto2 {α : Type} (p : α → α → Bool) (l m : List α) (i : Nat) : Prop := ∀ j (h : j < l.length) (h' : j < m.length), j < i → p l[j] m[j] = true
theorem upto2_zero {α : Type} (p : α → α → Bool) (l m : List α) : Upto2 p l m 0 := fun j _ _ h => absurd h (Nat.not_lt_zero j)
theorem upto2_step {α : Type} {p : α → α → Bool} {l m : List α} {i : Nat} (h : Upto2 p l m i) (hi : i < l.length) (hi' : i < m.length) (hb : p l[i] m[i] = true) : Upto2 p l m (i + 1) := fun j hj hj' h1 => by
  by_cases he : j = i
  · subst he; exact hb
  · exact h j hj hj' (by omega)
theorem upto2_end {α : Type} {p : α → α → Bool} : ∀ {l m : List α} {i : Nat}, l.length = m.length → Upto2 p l m i → l.length ≤ i → all2 p l m = true
  | [], [], _, _, _, _ => rfl
  | a :: l, b :: m, i, hl, h, hi => by
    rw [all2, show p a b = true from h 0 (by simp) (by simp) (by simp at hi; omega), Bool.true_and]
    exact upto2_end (i := i - 1) (by simpa using hl) (fun j hj hj' h1 => h (j + 1) (by simpa using hj) (by simpa using hj') (by omega)) (by simp at hi; omega)
theorem upto2_no {α : Type} {p : α → α → Bool} : ∀ {l m : List α} {i : Nat} (hi : i < l.length) (hi' : i < m.length), p l[i] m[i] = false → all2 p l m = false
  | a :: l, b :: m, 0, _, _, h => by rw [all2, show p a b = false from h, Bool.false_and]
  | a :: l, b :: m, i + 1, hi, hi', h => by
    rw [all2, upto2_no (by simpa using hi) (by simpa using hi') (by simpa using h), Bool.and_false]

/-- two words -/
def sameW (w u : Ww) : Bool := decide (w.l.map Wp.key = u.l.map Wp.key)
mutual
/-- two commands -/
def sameC : Cw → Cw → Bool
  | .mk k _ nm _ ws _ kids, .mk k' _ nm' _ ws' _ kids' => decide (k = k') && nm.same nm' && all2 sameW ws ws' && sameCs kids kids'
def sameCs : List Cw → List Cw → Bool
  | [], [] => true
  | c :: r, c' :: r' => sameC c c' && sameCs r r'
  | [], _ :: _ => false
  | _ :: _, [] => false
end
theorem sameCs_eq : ∀ l m : List Cw, sameCs l m = all2 sameC l m
  | [], [] => rfl
  | [], _ :: _ => rfl
  | _ :: _, [] => rfl
  | c :: r, c' :: r' => by rw [sameCs, all2, sameCs_eq r r']

/-- a word is held -/
def putWord (st : St) (w : Ww) : St := { ctr := st.ctr + 1, box := (st.box.put st.ctr (.cells [.nils, .int .i64 0] 31 true (some 0))).put st.ctr (.cells w.cells 31 true (some 0)) }
theorem putWord_keep (st : St) (w : Ww) : Keep st (putWord st w) := Keep.put ((Keep.refl st).new _) (Nat.le_refl _) _
theorem putWord_box (st : St) (w : Ww) : (putWord st w).box.get st.ctr = some (.cells w.cells 31 true (some 0)) := by unfold putWord; rw [Tr.get_put, if_pos rfl]
theorem putWord_ctr (st : St) (w : Ww) : st.ctr < (putWord st w).ctr := Nat.lt_succ_self _
theorem putCmd_ctr (st : St) (c : Cw) : st.ctr < (putCmd st c).ctr := Nat.lt_succ_self _
theorem Ww.ones {w : Ww} (h : w.ok) : w.cells.all oneC = true := by
  simp only [Ww.cells, List.all_cons, Row.one h]
  rfl
theorem putWord_store (st : St) {w : Ww} (h : w.ok) : vstore Try.prog { ctr := st.ctr + 1, box := st.box.put st.ctr (.cells [.nils, .int .i64 0] 31 true (some 0)) } 31 (.ptr st.ctr 0) (.agg w.cells) = some (putWord st w) :=
  store_all z31 (by rw [Tr.get_put, if_pos rfl]) rfl w.len2 (Ww.ones h)
theorem vloadW {st : St} {id : Nat} {w : Ww} {e : TypeId} {fl : Bool} {fz : Option Nat} (hb : st.box.get id = some (.cells w.cells e fl fz)) : vload Try.prog st 31 (.ptr id 0) = some (.agg w.cells) := vload31 hb

def EqQ (st : St) (A : Bool) (e : AE) (fr' : Fr) (st' : St) : Prop := Keep st st' ∧ fr'.ds = [] ∧ ((e = AE.ret ∧ Fr.at fr' 6 = .bool false ∧ A = false) ∨ (e = AE.normal ∧ A = true))

variable [Memo] [NY]

set_option maxHeartbeats 1000000 in
theorem equalW_ok (gl : Gl) (st : St) (x y : V) (ks ms : List Ww) (hx : Row Ww.cells x ks) (hy : Row Ww.cells y ms) (hok : ∀ c ∈ ks, c.ok) (hok' : ∀ c ∈ ms, c.ok) (hl : ks.length < 1000000) (hs : ∀ w ∈ ks, w.small) :
    ∃ v st', W Try.prog (.call gl 13 [x, y, .fn 14 [] []]) st = .call (.val v st') ∧ v = .bool (all2 sameW ks ms) ∧ Keep st st' := by
  have hkf : callable Try.prog 14 = true := by kernel_rfl
  have lx := hx.len Try.underlying22
  have ly := hy.len Try.underlying22
  refine call_ex (NY.no _ rfl rfl _ _) Try.func13 rfl (by kernel_rfl) ?_
  repeat refine Does.seq ?_
  refine Does.region ?_
  simp
  repeat refine Does.seq ?_
  refine Does.region ?_
  have en : ∀ kk, vbin Try.prog kk .neq 3 (.int .i64 (ks.length : Int)) (.int .i64 (ms.length : Int)) = some (.bool (!decide (ks.length = ms.length))) := fun kk => vI_neq rfl
  generalize hA : all2 sameW ks ms = A
  by_cases hlen : ks.length = ms.length
  rotate_left
  · rw [decide_eq_false hlen] at en
    simp [lx, ly, en]
    repeat refine Does.seq ?_
    refine Does.condT (by simp) ?_
    repeat refine Does.seq ?_
    refine Does.region ?_
    simp
    refine Does.ret ?_
    rw [all2_len hlen] at hA
    simp [← hA]
    exact .refl _
  rw [decide_eq_true hlen] at en
  simp [lx, ly, en]
  repeat refine Does.seq ?_
  refine Does.condF (by simp) ?_
  refine Does.skip ?_
  simp
  repeat refine Does.seq ?_
  refine Does.region ?_
  simp [lx]
  repeat refine Does.seq ?_
  refine Does.mono (Q := EqQ st A) ?loop ?tail
  case tail => as_aux_lemma =>
    rintro e fr' st' ⟨hk, hds, ⟨rfl, h2, hc⟩ | ⟨rfl, hc⟩⟩
    · simp only [andThen]
      simp [hds, h2, hc, hk]
    · simp only [andThen]
      repeat refine Does.seq ?_
      refine Does.region ?_
      simp
      refine Does.ret ?_
      simp [hds, hc, hk]
  case loop => as_aux_lemma =>
    refine Does.block (Does.up ks.length (fun i fr st' => Keep st st' ∧ fr.ds = [] ∧ fr.gl = gl ∧ Fr.at fr 0 = x ∧ Fr.at fr 1 = y ∧ Fr.at fr 2 = .fn 14 [] [] ∧ Fr.at fr 15 = x ∧ Fr.at fr 16 = .int .i64 (ks.length : Int) ∧ Fr.at fr 17 = .int .i64 (i : Int) ∧ i ≤ ks.length ∧ Upto2 sameW ks ms i) 0 ?init ?bound ?step)
    case init => exact ⟨.refl st, by simp, by simp, by simp, by simp, by simp, by simp, by simp, by simp, Nat.zero_le _, upto2_zero _ _ _⟩
    case bound => exact fun i fr st' h => h.2.2.2.2.2.2.2.2.2.1
    case step =>
      rintro i fr st' ⟨hk, hds, hg, h0, h1, h2, h15, h16, h17, hi, hall⟩
      have elen : ∀ kk, vbin Try.prog kk .lss 3 (.int .i64 (i : Int)) (.int .i64 (ks.length : Int)) = some (.bool (decide (i < ks.length))) := fun kk => vI_lss rfl
      repeat refine Does.seq ?_
      refine Does.region ?_
      by_cases hlt : i < ks.length
      rotate_left
      · rw [decide_eq_false hlt] at elen
        simp [h16, h17, elen]
        repeat refine Does.seq ?_
        refine Does.condF (by simp) ?_
        refine Does.exit ?_
        simp only [inBlock, if_true, andThen]
        exact ⟨hk, by simp [hds], .inr ⟨rfl, by rw [← hA]; exact upto2_end hlen hall (by omega)⟩⟩
      · rw [decide_eq_true hlt] at elen
        have hlt' : i < ms.length := by omega
        obtain ⟨r, g1⟩ := hx.get (z := 2) (fun c _ => c.len2) Try.underlying22 z31 hlt
        have i1 := g1 .i64
        obtain ⟨r', g1'⟩ := hy.get (z := 2) (fun c _ => c.len2) Try.underlying22 z31 hlt'
        have i2 := g1' .i64
        have hm := List.getElem_mem hlt
        have hm' := List.getElem_mem hlt'
        have hld := load31 ks[i] r st'
        have hpk := putWord_keep st' ks[i]
        have hpb := putWord_box st' ks[i]
        have hps := putWord_store st' (hok _ hm)
        have hpc := putWord_ctr st' ks[i]
        have hstep := fun h => upto2_step hall hlt hlt' h
        have hnot := fun h => upto2_no (p := sameW) hlt hlt' h
        have hw := hok _ hm
        have hw' := hok' _ hm'
        have hsm := hs _ hm
        have hcall := wSame_ok gl (putWord (putWord st' ks[i]) ms[i]) (.agg ks[i].cells) (.agg ms[i].cells) ks[i].l ms[i].l (Ww.wv hw _) (Ww.wv hw' _) (by have := hsm.1; omega)
        rw [show decide (ks[i].l.map Wp.key = ms[i].l.map Wp.key) = sameW ks[i] ms[i] from rfl] at hcall
        have w1 : IntKind.i64.wrap ((i : Int) + 1) = (i : Int) + 1 := wrap_i64 (by omega) (by omega)
        generalize putWord st' ks[i] = st3 at hpk hps hpb hpc hcall
        have hld2 := load31 ms[i] r' st3
        have hqk := putWord_keep st3 ms[i]
        have hqb := putWord_box st3 ms[i]
        have hqs := putWord_store st3 (hok' _ hm')
        generalize putWord st3 ms[i] = st4 at hqk hqs hqb hcall
        have hl2 := vloadW hqb
        have hl1 := vloadW (st := st4) (by rw [hqk.box _ hpc]; exact hpb)
        obtain ⟨v, st5, hc, rfl, hk5⟩ := hcall
        have hc := ihCall_W hc
        clear hpb hqb
        generalize sameW ks[i] ms[i] = mb at hc hstep hnot
        generalize ks[i].cells = cs at hld hc i1 hps hl1
        generalize ms[i].cells = cs' at hld2 hc i2 hqs hl2
        simp [h16, h17, elen]
        repeat refine Does.seq ?_
        refine Does.condT (by simp) ?_
        refine Does.skip ?_
        simp
        repeat refine Does.seq ?_
        refine Does.block ?_
        repeat refine Does.seq ?_
        refine Does.region ?_
        simp [h15, h17, i1, hld, valloc, zs31, V.cells, oneC, mkRef, vact, hps]
        repeat refine Does.seq ?_
        refine Does.region ?_
        simp [h1, i2, hld2, valloc, zs31, V.cells, oneC, mkRef, vact, hqs]
        repeat refine Does.seq ?_
        refine Does.region ?_
        simp [h2, hl1, hl2, hg, vcall_callable hkf, hc]
        repeat refine Does.seq ?_
        have hkk := ((hk.trans hpk).trans hqk).trans hk5
        cases mb with
        | false =>
          refine Does.condT (by simp) ?_
          repeat refine Does.seq ?_
          refine Does.region ?_
          simp
          refine Does.ret ?_
          simp only [andThen, inBlock]
          exact ⟨hkk, by simp [hds], .inl ⟨rfl, by simp, by rw [← hA]; exact hnot rfl⟩⟩
        | true =>
          refine Does.condF (by simp) ?_
          refine Does.skip ?_
          simp only [andThen, inBlock]
          refine Does.region ?_
          simp [h17, vbin_add, w1]
          exact ⟨i + 1, by omega, hkk, by simp [hds], by simp [hg], by simp [h0], by simp [h1], by simp [h2], by simp [h15], by simp [h16], by simp, by omega, hstep rfl⟩

set_option maxHeartbeats 1000000 in
theorem equalC_ok (gl : Gl) (st : St) (x y : V) (ks ms : List Cw) (hx : Row Cw.cells x ks) (hy : Row Cw.cells y ms) (hok : ∀ c ∈ ks, c.ok) (hok' : ∀ c ∈ ms, c.ok) (hl : ks.length < 1000000) 
    (ih : ∀ c ∈ ks, ∀ d ∈ ms, ∀ st, ∃ v st', W Try.prog (.call gl 9 [.agg c.cells, .agg d.cells]) st = .call (.val v st') ∧ v = .bool (sameC c d) ∧ Keep st st') :
    ∃ v st', W Try.prog (.call gl 15 [x, y, .fn 9 [] []]) st = .call (.val v st') ∧ v = .bool (all2 sameC ks ms) ∧ Keep st st' := by
  have hkf : callable Try.prog 9 = true := by kernel_rfl
  have lx := hx.len Try.underlying23
  have ly := hy.len Try.underlying23
  refine call_ex (NY.no _ rfl rfl _ _) Try.func15 rfl (by kernel_rfl) ?_
  repeat refine Does.seq ?_
  refine Does.region ?_
  simp
  repeat refine Does.seq ?_
  refine Does.region ?_
  have en : ∀ kk, vbin Try.prog kk .neq 3 (.int .i64 (ks.length : Int)) (.int .i64 (ms.length : Int)) = some (.bool (!decide (ks.length = ms.length))) := fun kk => vI_neq rfl
  generalize hA : all2 sameC ks ms = A
  by_cases hlen : ks.length = ms.length
  rotate_left
  · rw [decide_eq_false hlen] at en
    simp [lx, ly, en]
    repeat refine Does.seq ?_
    refine Does.condT (by simp) ?_
    repeat refine Does.seq ?_
    refine Does.region ?_
    simp
    refine Does.ret ?_
    rw [all2_len hlen] at hA
    simp [← hA]
    exact .refl _
  rw [decide_eq_true hlen] at en
  simp [lx, ly, en]
  repeat refine Does.seq ?_
  refine Does.condF (by simp) ?_
  refine Does.skip ?_
  simp
  repeat refine Does.seq ?_
  refine Does.region ?_
  simp [lx]
  repeat refine Does.seq ?_
  refine Does.mono (Q := EqQ st A) ?loop ?tail
  case tail => as_aux_lemma =>
    rintro e fr' st' ⟨hk, hds, ⟨rfl, h2, hc⟩ | ⟨rfl, hc⟩⟩
    · simp only [andThen]
      simp [hds, h2, hc, hk]
    · simp only [andThen]
      repeat refine Does.seq ?_
      refine Does.region ?_
      simp
      refine Does.ret ?_
      simp [hds, hc, hk]
  case loop => as_aux_lemma =>
    refine Does.block (Does.up ks.length (fun i fr st' => Keep st st' ∧ fr.ds = [] ∧ fr.gl = gl ∧ Fr.at fr 0 = x ∧ Fr.at fr 1 = y ∧ Fr.at fr 2 = .fn 9 [] [] ∧ Fr.at fr 15 = x ∧ Fr.at fr 16 = .int .i64 (ks.length : Int) ∧ Fr.at fr 17 = .int .i64 (i : Int) ∧ i ≤ ks.length ∧ Upto2 sameC ks ms i) 0 ?init ?bound ?step)
    case init => exact ⟨.refl st, by simp, by simp, by simp, by simp, by simp, by simp, by simp, by simp, Nat.zero_le _, upto2_zero _ _ _⟩
    case bound => exact fun i fr st' h => h.2.2.2.2.2.2.2.2.2.1
    case step =>
      rintro i fr st' ⟨hk, hds, hg, h0, h1, h2, h15, h16, h17, hi, hall⟩
      have elen : ∀ kk, vbin Try.prog kk .lss 3 (.int .i64 (i : Int)) (.int .i64 (ks.length : Int)) = some (.bool (decide (i < ks.length))) := fun kk => vI_lss rfl
      repeat refine Does.seq ?_
      refine Does.region ?_
      by_cases hlt : i < ks.length
      rotate_left
      · rw [decide_eq_false hlt] at elen
        simp [h16, h17, elen]
        repeat refine Does.seq ?_
        refine Does.condF (by simp) ?_
        refine Does.exit ?_
        simp only [inBlock, if_true, andThen]
        exact ⟨hk, by simp [hds], .inr ⟨rfl, by rw [← hA]; exact upto2_end hlen hall (by omega)⟩⟩
      · rw [decide_eq_true hlt] at elen
        have hlt' : i < ms.length := by omega
        obtain ⟨r, g1⟩ := hx.get (z := 5) (fun c _ => c.len5) Try.underlying23 z25 hlt
        have i1 := g1 .i64
        obtain ⟨r', g1'⟩ := hy.get (z := 5) (fun c _ => c.len5) Try.underlying23 z25 hlt'
        have i2 := g1' .i64
        have hm := List.getElem_mem hlt
        have hm' := List.getElem_mem hlt'
        have hld := load25 ks[i] r st'
        have hpk := putCmd_keep st' ks[i]
        have hpb := putCmd_box st' ks[i]
        have hps := putCmd_store st' (hok _ hm)
        have hpc := putCmd_ctr st' ks[i]
        have hstep := fun h => upto2_step hall hlt hlt' h
        have hnot := fun h => upto2_no (p := sameC) hlt hlt' h
        have hcall := ih _ hm _ hm' (putCmd (putCmd st' ks[i]) ms[i])
        have w1 : IntKind.i64.wrap ((i : Int) + 1) = (i : Int) + 1 := wrap_i64 (by omega) (by omega)
        generalize putCmd st' ks[i] = st3 at hpk hps hpb hpc hcall
        have hld2 := load25 ms[i] r' st3
        have hqk := putCmd_keep st3 ms[i]
        have hqb := putCmd_box st3 ms[i]
        have hqs := putCmd_store st3 (hok' _ hm')
        generalize putCmd st3 ms[i] = st4 at hqk hqs hqb hcall
        have hl2 := vload25 hqb
        have hl1 := vload25 (st := st4) (by rw [hqk.box _ hpc]; exact hpb)
        obtain ⟨v, st5, hc, rfl, hk5⟩ := hcall
        have hc := ihCall_W hc
        clear hpb hqb
        generalize sameC ks[i] ms[i] = mb at hc hstep hnot
        generalize ks[i].cells = cs at hld hc i1 hps hl1
        generalize ms[i].cells = cs' at hld2 hc i2 hqs hl2
        simp [h16, h17, elen]
        repeat refine Does.seq ?_
        refine Does.condT (by simp) ?_
        refine Does.skip ?_
        simp
        repeat refine Does.seq ?_
        refine Does.block ?_
        repeat refine Does.seq ?_
        refine Does.region ?_
        simp [h15, h17, i1, hld, valloc, zs25, V.cells, oneC, mkRef, vact, hps]
        repeat refine Does.seq ?_
        refine Does.region ?_
        simp [h1, i2, hld2, valloc, zs25, V.cells, oneC, mkRef, vact, hqs]
        repeat refine Does.seq ?_
        refine Does.region ?_
        simp [h2, hl1, hl2, hg, vcall_callable hkf, hc]
        repeat refine Does.seq ?_
        have hkk := ((hk.trans hpk).trans hqk).trans hk5
        cases mb with
        | false =>
          refine Does.condT (by simp) ?_
          repeat refine Does.seq ?_
          refine Does.region ?_
          simp
          refine Does.ret ?_
          simp only [andThen, inBlock]
          exact ⟨hkk, by simp [hds], .inl ⟨rfl, by simp, by rw [← hA]; exact hnot rfl⟩⟩
        | true =>
          refine Does.condF (by simp) ?_
          refine Does.skip ?_
          simp only [andThen, inBlock]
          refine Does.region ?_
          simp [h17, vbin_add, w1]
          exact ⟨i + 1, by omega, hkk, by simp [hds], by simp [hg], by simp [h0], by simp [h1], by simp [h2], by simp [h15], by simp [h16], by simp, by omega, hstep rfl⟩

end Go.Vm

namespace Go.Vm
open Go Go.Proofs Go.Sy
attribute [local simp] Oks xOps vwanted isDefer vop kindOf vpure ev evs toV andThen inBlock atTo_some Fr.dsTo Fr.glTo Fr.toNone initFr_at initFr_ds initFr_gl veff traverse tupled vresult V.undef evOpt xDraw xStep

/-- two variables that hold commands -/
def newCmd2 (st : St) (c d : List V) : St := { ctr := st.ctr + 1 + 1, box := (st.box.put st.ctr (.cells c 25 true (some 0))).put (st.ctr + 1) (.cells d 25 true (some 0)) }
theorem newCmd2_keep (st : St) (c d : List V) : Keep st (newCmd2 st c d) := ((Keep.refl st).new _).new _
theorem newCmd2_a (st : St) (c d : List V) : (newCmd2 st c d).box.get st.ctr = some (.cells c 25 true (some 0)) := by unfold newCmd2; rw [Tr.get_put, if_neg (by omega), Tr.get_put, if_pos rfl]
theorem newCmd2_b (st : St) (c d : List V) : (newCmd2 st c d).box.get (st.ctr + 1) = some (.cells d 25 true (some 0)) := by unfold newCmd2; rw [Tr.get_put, if_pos rfl]
theorem newCmd2_ctr (st : St) (c d : List V) : st.ctr + 1 < (newCmd2 st c d).ctr := Nat.lt_succ_self _

def SaF (gl : Gl) (id1 : Nat) (fr : Fr) : Prop := fr.ds = [] ∧ fr.gl = gl ∧ Fr.at fr 2 = .ptr id1 0 ∧ Fr.at fr 3 = .ptr (id1 + 1) 0

variable [Memo] [NY]

set_option maxHeartbeats 1000000 in
theorem wSameC_ok (gl : Gl) (c : Cw) (hok : c.ok) : c.small → ∀ d : Cw, d.ok → d.small → ∀ st : St,
    ∃ v st', W Try.prog (.call gl 9 [.agg c.cells, .agg d.cells]) st = .call (.val v st') ∧ v = .bool (sameC c d) ∧ Keep st st' := by
  induction hok with
  | mk k a nm wv ws kv kids hk hw hws hkv hks ih =>
  intro hsm d hd hdsm st
  cases hsm with
  | mk _ _ _ _ _ _ _ hn hwl hkl hwz hkz hws' hks' =>
  cases hd with
  | mk k2 a2 nm2 wv2 ws2 kv2 kids2 hk2 hw2 hws2 hkv2 hks2 =>
  cases hdsm with
  | mk _ _ _ _ _ _ _ hn2 hwl2 hkl2 hwz2 hkz2 hws2' hks2' =>
  have hk13 : callable Try.prog 13 = true := by kernel_rfl
  have hk15 : callable Try.prog 15 = true := by kernel_rfl
  have ow := hw.one
  have okv := hkv.one
  have ow2 := hw2.one
  have okv2 := hkv2.one
  have oi : ∀ k n, oneC (.int k n) = true := fun _ _ => rfl
  have os : ∀ s, oneC (.str s) = true := fun _ => rfl
  refine call_ex (NY.no _ rfl rfl _ _) Try.func9 rfl (by kernel_rfl) ?_
  repeat refine Does.seq ?_
  refine Does.region ?_
  refine Oks.cont (Q := fun fr st' => st' = newCmd2 st [.int .u8 (k : Int), .int .i64 a, .str nm, wv, kv] [.int .u8 (k2 : Int), .int .i64 a2, .str nm2, wv2, kv2] ∧ SaF gl st.ctr fr) ?r0 ?t0
  case r0 => as_aux_lemma =>
    simp [valloc, V.cells, Cw.cells, ow, oi, os, okv, ow2, okv2, mkRef]
    exact ⟨rfl, by simp, by simp, by simp, by simp⟩
  case t0 => as_aux_lemma =>
  have hk1 := newCmd2_keep st [.int .u8 (k : Int), .int .i64 a, .str nm, wv, kv] [.int .u8 (k2 : Int), .int .i64 a2, .str nm2, wv2, kv2]
  have b1 := newCmd2_a st [.int .u8 (k : Int), .int .i64 a, .str nm, wv, kv] [.int .u8 (k2 : Int), .int .i64 a2, .str nm2, wv2, kv2]
  have b2 := newCmd2_b st [.int .u8 (k : Int), .int .i64 a, .str nm, wv, kv] [.int .u8 (k2 : Int), .int .i64 a2, .str nm2, wv2, kv2]
  have hct := newCmd2_ctr st [.int .u8 (k : Int), .int .i64 a, .str nm, wv, kv] [.int .u8 (k2 : Int), .int .i64 a2, .str nm2, wv2, kv2]
  rintro fr st' ⟨hst', hds, hg, h2, h3⟩
  rw [hst']
  clear hst'
  revert hk1 b1 b2 hct
  generalize newCmd2 st [.int .u8 (k : Int), .int .i64 a, .str nm, wv, kv] [.int .u8 (k2 : Int), .int .i64 a2, .str nm2, wv2, kv2] = st1
  generalize hid1 : st.ctr = id1 at h2 h3
  intro hk1 b1 b2 hct
  have l0 := vload_of (P := Try.prog) (off := 0) sa5 sz5 b1 rfl
  have l2 := vload_of (P := Try.prog) (off := 2) sa9 sz9 b1 rfl
  have l3 := vload_of (P := Try.prog) (off := 3) sa22 sz22 b1 rfl
  have k0 := vload_of (P := Try.prog) (off := 0) sa5 sz5 b2 rfl
  have k2' := vload_of (P := Try.prog) (off := 2) sa9 sz9 b2 rfl
  have k3 := vload_of (P := Try.prog) (off := 3) sa22 sz22 b2 rfl
  have f0 := cg0 id1
  have f2 := cg2 id1
  have f3 := cg3 id1
  have f4 := cg4 id1
  have g0 := cg0 (id1 + 1)
  have g2 := cg2 (id1 + 1)
  have g3 := cg3 (id1 + 1)
  have g4 := cg4 (id1 + 1)
  obtain ⟨v, st2, hc1, rfl, hkw⟩ := equalW_ok gl st1 wv wv2 ws ws2 hw hw2 hws hws2 hwl hws'
  have hc1 := ihCall_W hc1
  have b1' : st2.box.get id1 = some (.cells [.int .u8 (k : Int), .int .i64 a, .str nm, wv, kv] 25 true (some 0)) := by rw [hkw.box _ (by omega)]; exact b1
  have b2' : st2.box.get (id1 + 1) = some (.cells [.int .u8 (k2 : Int), .int .i64 a2, .str nm2, wv2, kv2] 25 true (some 0)) := by rw [hkw.box _ hct]; exact b2
  have l4 := vload_of (P := Try.prog) (off := 4) sa23 sz23 b1' rfl
  have k4 := vload_of (P := Try.prog) (off := 4) sa23 sz23 b2' rfl
  obtain ⟨v, st3, hc2, rfl, hkk⟩ := equalC_ok gl st2 kv kv2 kids kids2 hkv hkv2 hks hks2 hkl (fun c hc d hd st => ih c hc (hks' c hc) d (hks2 d hd) (hks2' d hd) st)
  have hc2 := ihCall_W hc2
  rw [show sameC (.mk k a nm wv ws kv kids) (.mk k2 a2 nm2 wv2 ws2 kv2 kids2) = (decide (k = k2) && nm.same nm2 && all2 sameW ws ws2 && sameCs kids kids2) from rfl, sameCs_eq]
  have e0 : ∀ kk, vbin Try.prog kk .eql 5 (.int .u8 (k : Int)) (.int .u8 (k2 : Int)) = some (.bool (decide (k = k2))) := fun kk => vI_eql rfl
  generalize all2 sameW ws ws2 = A at hc1
  generalize all2 sameC kids kids2 = B at hc2
  generalize decide (k = k2) = K at e0
  have en : ∀ kk, vbin Try.prog kk .eql 9 (.str nm) (.str nm2) = some (.bool (nm.same nm2)) := fun kk => vbin_seql
  generalize nm.same nm2 = N at en
  generalize (k : Int) = ki at e0 l0
  generalize (k2 : Int) = ki2 at e0 k0
  clear b1 b2 b1' b2' ih hks hks2 hks' hks2' hws hws2 hws' hws2' hw hw2 hkv hkv2
  repeat refine Does.seq ?_
  refine Does.region ?_
  refine Oks.cut 13 (fun fr st' => AtSt st1 st' ∧ SaF gl id1 fr ∧ Fr.at fr 17 = .bool (K && N)) ?c1 ?c2
  case c1 => as_aux_lemma =>
    simp only [List.take, List.take_succ_cons]
    cases K with
    | false =>
      simp [h2, h3, f0, g0, l0, k0, e0]
      exact ⟨rfl, by simp [hds], by simp [hg], by simp [h2], by simp [h3]⟩
    | true =>
      simp [h2, h3, f0, g0, l0, k0, e0, f2, g2, l2, k2', en]
      exact ⟨rfl, by simp [hds], by simp [hg], by simp [h2], by simp [h3]⟩
  case c2 => as_aux_lemma =>
  clear hds hg h2 h3
  rintro fr st' ⟨hst', ⟨hds, hg, h2, h3⟩, h17⟩
  rw [show st' = st1 from hst']
  clear hst'
  simp only [List.drop, List.drop_succ_cons]
  generalize (K && N) = KN at h17
  refine Oks.cut 7 (fun fr st' => (AtSt st1 st' ∨ AtSt st2 st') ∧ ((KN && A) = true → AtSt st2 st') ∧ SaF gl id1 fr ∧ Fr.at fr 24 = .bool (KN && A)) ?c3 ?c4
  case c3 => as_aux_lemma =>
    simp only [List.take, List.take_succ_cons]
    cases KN with
    | false =>
      simp [h17, h2, h3]
      exact ⟨.inl rfl, by simp [hds], by simp [hg], by simp [h2], by simp [h3]⟩
    | true =>
      simp [h17, h2, h3, f3, g3, l3, k3, hg, vcall_callable hk13, hc1]
      exact ⟨.inr rfl, fun _ => rfl, by simp [hds], by simp [hg], by simp [h2], by simp [h3]⟩
  case c4 => as_aux_lemma =>
  clear hds hg h2 h3 h17
  rintro fr st' ⟨hst', hst2, ⟨hds, hg, h2, h3⟩, h24⟩
  simp only [List.drop, List.drop_succ_cons]
  have hkst : Keep st st' := by
    rcases hst' with h | h
    · rw [show st' = st1 from h]; exact hk1
    · rw [show st' = st2 from h]; exact hk1.trans hkw
  generalize (KN && A) = KA at h24 hst2
  cases KA with
  | false =>
    simp [h24]
    refine Does.ret ?_
    simp [hds]
    exact hkst
  | true =>
    rw [show st' = st2 from hst2 rfl]
    simp [h24, h2, h3, f4, g4, l4, k4, hg, vcall_callable hk15, hc2]
    refine Does.ret ?_
    simp [hds]
    exact (hk1.trans hkw).trans hkk
end Go.Vm

namespace Go.Vm
open Go Go.Proofs Go.Sy
attribute [local simp] Oks xOps vwanted isDefer vop kindOf vpure ev evs toV andThen inBlock atTo_some Fr.dsTo Fr.glTo Fr.toNone initFr_at initFr_ds initFr_gl veff traverse tupled vresult V.undef evOpt xDraw xStep

def SaQ (gl : Gl) (id1 : Nat) (st : St) (A : Bool) (e : AE) (fr : Fr) (st' : St) : Prop :=
  (e = AE.ret ∧ Keep st st' ∧ fr.ds = [] ∧ Fr.at fr 4 = .bool false ∧ A = false) ∨ (e = AE.normal ∧ Keep st st' ∧ SaF gl id1 fr ∧ A = true)
theorem Cw.vsz {c : Cw} (h : c.small) : Go.Vm.vsz (.agg c.cells) < 1000000000 := by
  cases h with
  | mk k a nm wv ws kv kids hn hwl hkl hwz hkz hws hks => simp only [Cw.cells, Go.Vm.vsz, vszs]; omega
theorem all2_lens {α : Type} {p : α → α → Bool} {l m : List α} : (decide (l.length = m.length) && all2 p l m) = all2 p l m := by
  by_cases h : l.length = m.length
  · rw [decide_eq_true h, Bool.true_and]
  · rw [all2_len h, Bool.and_false]

variable [Memo] [NY]

set_option maxHeartbeats 1000000 in
theorem rSameC_ok (gl : Gl) (c : Cw) (hok : c.ok) : c.small → ∀ d : Cw, d.ok → d.small → ∀ st : St,
    ∃ v st', W Try.prog (.call gl 10 [.agg c.cells, .agg d.cells]) st = .call (.val v st') ∧ v = .bool (sameC c d) ∧ Keep st st' := by
  induction hok with
  | mk k a nm wv ws kv kids hk hw hws hkv hks ih =>
  intro hsm d hd hdsm st
  cases hsm with
  | mk _ _ _ _ _ _ _ hn hwl hkl hwz hkz hws' hks' =>
  cases hd with
  | mk k2 a2 nm2 wv2 ws2 kv2 kids2 hk2 hw2 hws2 hkv2 hks2 =>
  cases hdsm with
  | mk _ _ _ _ _ _ _ hn2 hwl2 hkl2 hwz2 hkz2 hws2' hks2' =>
  have hk16 : callable Try.prog 16 = true := by kernel_rfl
  have hk10 : callable Try.prog 10 = true := by kernel_rfl
  have ow := hw.one
  have okv := hkv.one
  have ow2 := hw2.one
  have okv2 := hkv2.one
  have oi : ∀ k n, oneC (.int k n) = true := fun _ _ => rfl
  have os : ∀ s, oneC (.str s) = true := fun _ => rfl
  refine call_ex (NY.no _ rfl rfl _ _) Try.func10 rfl (by kernel_rfl) ?_
  repeat refine Does.seq ?_
  refine Does.region ?_
  refine Oks.cont (Q := fun fr st' => st' = newCmd2 st [.int .u8 (k : Int), .int .i64 a, .str nm, wv, kv] [.int .u8 (k2 : Int), .int .i64 a2, .str nm2, wv2, kv2] ∧ SaF gl st.ctr fr) ?r0 ?t0
  case r0 => as_aux_lemma =>
    simp [valloc, V.cells, Cw.cells, ow, oi, os, okv, ow2, okv2, mkRef]
    exact ⟨rfl, by simp, by simp, by simp, by simp⟩
  case t0 => as_aux_lemma =>
  have hk1 := newCmd2_keep st [.int .u8 (k : Int), .int .i64 a, .str nm, wv, kv] [.int .u8 (k2 : Int), .int .i64 a2, .str nm2, wv2, kv2]
  have b1 := newCmd2_a st [.int .u8 (k : Int), .int .i64 a, .str nm, wv, kv] [.int .u8 (k2 : Int), .int .i64 a2, .str nm2, wv2, kv2]
  have b2 := newCmd2_b st [.int .u8 (k : Int), .int .i64 a, .str nm, wv, kv] [.int .u8 (k2 : Int), .int .i64 a2, .str nm2, wv2, kv2]
  have hct := newCmd2_ctr st [.int .u8 (k : Int), .int .i64 a, .str nm, wv, kv] [.int .u8 (k2 : Int), .int .i64 a2, .str nm2, wv2, kv2]
  rintro fr st' ⟨hst', hds, hg, h2, h3⟩
  rw [hst']
  clear hst'
  revert hk1 b1 b2 hct
  generalize newCmd2 st [.int .u8 (k : Int), .int .i64 a, .str nm, wv, kv] [.int .u8 (k2 : Int), .int .i64 a2, .str nm2, wv2, kv2] = st1
  generalize hid1 : st.ctr = id1 at h2 h3
  intro hk1 b1 b2 hct
  have l0 := vload_of (P := Try.prog) (off := 0) sa5 sz5 b1 rfl
  have l2 := vload_of (P := Try.prog) (off := 2) sa9 sz9 b1 rfl
  have l3 := vload_of (P := Try.prog) (off := 3) sa22 sz22 b1 rfl
  have k0 := vload_of (P := Try.prog) (off := 0) sa5 sz5 b2 rfl
  have k2' := vload_of (P := Try.prog) (off := 2) sa9 sz9 b2 rfl
  have k3 := vload_of (P := Try.prog) (off := 3) sa22 sz22 b2 rfl
  have f0 := cg0 id1
  have f2 := cg2 id1
  have f3 := cg3 id1
  have f4 := cg4 id1
  have g0 := cg0 (id1 + 1)
  have g2 := cg2 (id1 + 1)
  have g3 := cg3 (id1 + 1)
  have g4 := cg4 (id1 + 1)
  have l4 := vload_of (P := Try.prog) (off := 4) sa23 sz23 b1 rfl
  have k4 := vload_of (P := Try.prog) (off := 4) sa23 sz23 b2 rfl
  have lx := hw.len Try.underlying22
  have ly := hw2.len Try.underlying22
  have lk := hkv.len Try.underlying23
  have lk2 := hkv2.len Try.underlying23
  rw [show sameC (.mk k a nm wv ws kv kids) (.mk k2 a2 nm2 wv2 ws2 kv2 kids2) = (decide (k = k2) && nm.same nm2 && all2 sameW ws ws2 && sameCs kids kids2) from rfl, sameCs_eq]
  rw [show (decide (k = k2) && nm.same nm2 && all2 sameW ws ws2 && all2 sameC kids kids2) = (decide (k = k2) && nm.same nm2 && decide (ws.length = ws2.length) && decide (kids.length = kids2.length) && (all2 sameW ws ws2 && all2 sameC kids kids2)) from by
    conv => lhs; rw [← all2_lens (p := sameW), ← all2_lens (p := sameC)]
    cases decide (k = k2) <;> cases nm.same nm2 <;> cases decide (ws.length = ws2.length) <;> cases decide (kids.length = kids2.length) <;> simp]
  have e0 : ∀ kk, vbin Try.prog kk .neq 5 (.int .u8 (k : Int)) (.int .u8 (k2 : Int)) = some (.bool (!decide (k = k2))) := fun kk => vI_neq rfl
  have ew : ∀ kk, vbin Try.prog kk .neq 3 (.int .i64 (ws.length : Int)) (.int .i64 (ws2.length : Int)) = some (.bool (!decide (ws.length = ws2.length))) := fun kk => vI_neq rfl
  have ek : ∀ kk, vbin Try.prog kk .neq 3 (.int .i64 (kids.length : Int)) (.int .i64 (kids2.length : Int)) = some (.bool (!decide (kids.length = kids2.length))) := fun kk => vI_neq rfl
  have en : ∀ kk, vbin Try.prog kk .neq 9 (.str nm) (.str nm2) = some (.bool (!nm.same nm2)) := fun kk => vbin_sneq
  generalize hA : all2 sameW ws ws2 = A
  generalize hB : all2 sameC kids kids2 = B
  generalize decide (k = k2) = K at e0
  generalize nm.same nm2 = N at en
  generalize hL : decide (ws.length = ws2.length) = L at ew
  generalize hM : decide (kids.length = kids2.length) = M at ek
  repeat refine Does.seq ?_
  refine Does.region ?_
  refine Oks.cut 13 (fun fr st' => AtSt st1 st' ∧ SaF gl id1 fr ∧ Fr.at fr 19 = .bool (!(K && N))) ?c1 ?c2
  case c1 => as_aux_lemma =>
    simp only [List.take, List.take_succ_cons]
    clear hA hB hL hM ih ew ek b1 b2
    generalize (k : Int) = ki at e0 l0
    generalize (k2 : Int) = ki2 at e0 k0
    cases K with
    | false =>
      simp [h2, h3, f0, g0, l0, k0, e0]
      exact ⟨rfl, by simp [hds], by simp [hg], by simp [h2], by simp [h3]⟩
    | true =>
      simp [h2, h3, f0, g0, l0, k0, e0, f2, g2, l2, k2', en]
      exact ⟨rfl, by simp [hds], by simp [hg], by simp [h2], by simp [h3]⟩
  case c2 => as_aux_lemma =>
  clear hds hg h2 h3
  rintro fr st' ⟨hst', ⟨hds, hg, h2, h3⟩, h19⟩
  rw [show st' = st1 from hst']
  clear hst'
  simp only [List.drop, List.drop_succ_cons]
  generalize (K && N) = KN at h19
  refine Oks.cut 9 (fun fr st' => AtSt st1 st' ∧ SaF gl id1 fr ∧ Fr.at fr 28 = .bool (!(KN && L))) ?c3 ?c4
  case c3 => as_aux_lemma =>
    simp only [List.take, List.take_succ_cons]
    clear hA hB hL hM ih b1 b2
    generalize (ws.length : Int) = wl at ew lx
    generalize (ws2.length : Int) = wl2 at ew ly
    cases KN with
    | false =>
      simp [h19, h2, h3]
      exact ⟨rfl, by simp [hds], by simp [hg], by simp [h2], by simp [h3]⟩
    | true =>
      simp [h19, h2, h3, f3, g3, l3, k3, lx, ly, ew]
      exact ⟨rfl, by simp [hds], by simp [hg], by simp [h2], by simp [h3]⟩
  case c4 => as_aux_lemma =>
  clear hds hg h2 h3 h19
  rintro fr st' ⟨hst', ⟨hds, hg, h2, h3⟩, h28⟩
  rw [show st' = st1 from hst']
  clear hst'
  simp only [List.drop, List.drop_succ_cons]
  generalize hKL : (KN && L) = KL at h28
  refine Oks.cont (Q := fun fr st' => AtSt st1 st' ∧ SaF gl id1 fr ∧ Fr.at fr 36 = .bool (!(KL && M))) ?c5 ?c6
  case c5 => as_aux_lemma =>
    clear hA hB hL hM ih b1 b2
    generalize (kids.length : Int) = wl at ek lk
    generalize (kids2.length : Int) = wl2 at ek lk2
    cases KL with
    | false =>
      simp [h28, h2, h3]
      exact ⟨rfl, by simp [hds], by simp [hg], by simp [h2], by simp [h3]⟩
    | true =>
      simp [h28, h2, h3, f4, g4, l4, k4, lk, lk2, ek]
      exact ⟨rfl, by simp [hds], by simp [hg], by simp [h2], by simp [h3]⟩
  case c6 => as_aux_lemma =>
  clear hds hg h2 h3 h28
  rintro fr st' ⟨hst', ⟨hds, hg, h2, h3⟩, h36⟩
  rw [show st' = st1 from hst']
  clear hst'
  simp only [andThen]
  repeat refine Does.seq ?_
  generalize hKM : (KL && M) = KM at h36
  cases KM with
  | false =>
    refine Does.condT (by simp [h36]) ?_
    repeat refine Does.seq ?_
    refine Does.region ?_
    simp
    refine Does.ret ?_
    simp [hds]
    exact hk1
  | true =>
  refine Does.condF (by simp [h36]) ?_
  refine Does.skip ?_
  simp only [andThen, Bool.true_and]
  have hlen : ws.length = ws2.length := by
    rw [← hKL, ← hL] at hKM
    simp at hKM
    exact hKM.1.2
  have hlen2 : kids.length = kids2.length := by
    rw [← hM] at hKM
    simp at hKM
    exact hKM.2
  clear hL hM hKL hKM e0 ew ek en h36
  repeat refine Does.seq ?_
  refine Does.region ?_
  simp
  repeat refine Does.seq ?_
  have vx := veq_self wv (by omega)
  have vy := veq_self wv2 (by omega)
  have vk := veq_self kv (by omega)
  have vk2 := veq_self kv2 (by omega)
  refine Does.mono (Q := SaQ gl id1 st1 A) ?loop ?tail
  case loop => as_aux_lemma =>
    refine Does.block (Does.up ws.length (fun i fr st' => Keep st1 st' ∧ SaF gl id1 fr ∧ Fr.at fr 5 = .int .i64 (i : Int) ∧ i ≤ ws.length ∧ Upto2 sameW ws ws2 i) 0 ?init ?bound ?step)
    case init => exact ⟨.refl st1, ⟨by simp [hds], by simp [hg], by simp [h2], by simp [h3]⟩, by simp, Nat.zero_le _, upto2_zero _ _ _⟩
    case bound => exact fun i fr st' h => h.2.2.2.1
    case step =>
      clear hds hg h2 h3
      rintro i fr st' ⟨hk, ⟨hds, hg, h2, h3⟩, h5, hi, hall⟩
      have elen : ∀ kk, vbin Try.prog kk .lss 3 (.int .i64 (i : Int)) (.int .i64 (ws.length : Int)) = some (.bool (decide (i < ws.length))) := fun kk => vI_lss rfl
      have b1' : st'.box.get id1 = some (.cells [.int .u8 (k : Int), .int .i64 a, .str nm, wv, kv] 25 true (some 0)) := by rw [hk.box _ (by omega)]; exact b1
      have b2' : st'.box.get (id1 + 1) = some (.cells [.int .u8 (k2 : Int), .int .i64 a2, .str nm2, wv2, kv2] 25 true (some 0)) := by rw [hk.box _ hct]; exact b2
      have l3' := vload_of (P := Try.prog) (off := 3) sa22 sz22 b1' rfl
      repeat refine Does.seq ?_
      refine Does.region ?_
      by_cases hlt : i < ws.length
      rotate_left
      · rw [decide_eq_false hlt] at elen
        simp [h2, h5, f3, l3', lx, elen]
        repeat refine Does.seq ?_
        refine Does.condF (by simp) ?_
        refine Does.exit ?_
        simp only [inBlock, if_true, andThen]
        exact .inr ⟨rfl, hk, ⟨by simp [hds], by simp [hg], by simp [h2], by simp [h3]⟩, by rw [← hA]; exact upto2_end hlen hall (by omega)⟩
      · rw [decide_eq_true hlt] at elen
        have hlt' : i < ws2.length := by omega
        obtain ⟨r, g1⟩ := hw.get (z := 2) (fun c _ => c.len2) Try.underlying22 z31 hlt
        have i1 := g1 .i64
        obtain ⟨r', g1'⟩ := hw2.get (z := 2) (fun c _ => c.len2) Try.underlying22 z31 hlt'
        have i2 := g1' .i64
        have hm := List.getElem_mem hlt
        have hm' := List.getElem_mem hlt'
        have hkt : Keep st1 { ctr := st'.ctr + 12, box := st'.box } := hk.tick 12
        have l3t := vload_of (P := Try.prog) (st := { ctr := st'.ctr + 12, box := st'.box }) (off := 3) sa22 sz22 b1' rfl
        have k3t := vload_of (P := Try.prog) (st := { ctr := st'.ctr + 12, box := st'.box }) (off := 3) sa22 sz22 b2' rfl
        have hld := load31 ws[i] r { ctr := st'.ctr + 12, box := st'.box }
        have hld2 := load31 ws2[i] r' { ctr := st'.ctr + 12, box := st'.box }
        have hstep := fun h => upto2_step hall hlt hlt' h
        have hnot := fun h => upto2_no (p := sameW) hlt hlt' h
        have w1 : IntKind.i64.wrap ((i : Int) + 1) = (i : Int) + 1 := wrap_i64 (by omega) (by omega)
        have hsm := hws' _ hm
        have hsm2 := hws2' _ hm'
        obtain ⟨v, st5, hc, rfl, hk5⟩ := rSame_ok gl { ctr := st'.ctr + 12, box := st'.box } (.agg ws[i].cells) (.agg ws2[i].cells) ws[i].l ws2[i].l (Ww.wv (hws _ hm) _) (Ww.wv (hws2 _ hm') _) (by have := hsm.1; omega) (by have := hsm2.1; omega)
        have hc := ihCall_W hc
        rw [show decide (ws[i].l.map Wp.key = ws2[i].l.map Wp.key) = sameW ws[i] ws2[i] from rfl] at hc
        have va : veq 1000000000 (.agg ws[i].cells) (.agg ws[i].cells) = true := veq_self _ (by have := hsm.2.2; simp only [Ww.cells, vsz, vszs]; omega)
        have vb : veq 1000000000 (.agg ws2[i].cells) (.agg ws2[i].cells) = true := veq_self _ (by have := hsm2.2.2; simp only [Ww.cells, vsz, vszs]; omega)
        generalize sameW ws[i] ws2[i] = mb at hc hstep hnot
        generalize ws[i].cells = cs at hld hc i1 va
        generalize ws2[i].cells = cs' at hld2 hc i2 vb
        simp [h2, h5, f3, l3', lx, elen]
        repeat refine Does.seq ?_
        refine Does.condT (by simp) ?_
        refine Does.skip ?_
        simp
        repeat refine Does.seq ?_
        refine Does.block ?_
        repeat refine Does.seq ?_
        refine Does.draw (b := [0, 1, 0, 7, 15, 0, 32, 0, 224, 480, 1023, 2047]) (l := [0, 1, 2, 3, 4, 5, 6, 7, 8, 9, 10, 11]) (by kernel_rfl) (by kernel_rfl) (by kernel_rfl) ?_
        simp [sameIn, h2, h3, h5, f3, g3, l3t, k3t, i1, i2, hld, hld2, vx, vy, va, vb, hg, vcall_callable hk16, hc]
        repeat refine Does.seq ?_
        cases mb with
        | false =>
          refine Does.condT (by simp) ?_
          repeat refine Does.seq ?_
          refine Does.region ?_
          simp
          refine Does.ret ?_
          simp only [andThen, inBlock]
          exact .inl ⟨rfl, hkt.trans hk5, by simp [hds], by simp, by rw [← hA]; exact hnot rfl⟩
        | true =>
          refine Does.condF (by simp) ?_
          refine Does.skip ?_
          simp only [andThen, inBlock]
          refine Does.region ?_
          simp [h5, vbin_add, w1]
          exact ⟨i + 1, by omega, hkt.trans hk5, ⟨by simp [hds], by simp [hg], by simp [h2], by simp [h3]⟩, by simp, by omega, hstep rfl⟩
  case tail => as_aux_lemma =>
    clear hds hg h2 h3
    rintro e fr st2 (⟨rfl, hk, hds, h4, rfl⟩ | ⟨rfl, hk, ⟨hds, hg, h2, h3⟩, rfl⟩)
    · simp only [andThen]
      simp [hds, h4]
      exact hk1.trans hk
    simp only [andThen, Bool.true_and]
    have c1 : st2.box.get id1 = some (.cells [.int .u8 (k : Int), .int .i64 a, .str nm, wv, kv] 25 true (some 0)) := by rw [hk.box _ (by omega)]; exact b1
    have c2 : st2.box.get (id1 + 1) = some (.cells [.int .u8 (k2 : Int), .int .i64 a2, .str nm2, wv2, kv2] 25 true (some 0)) := by rw [hk.box _ hct]; exact b2
    have hct2 : id1 + 1 < st2.ctr := Nat.lt_of_lt_of_le hct hk.ctr
    have hk12 := hk1.trans hk
    clear hk
    repeat refine Does.seq ?_
    refine Does.region ?_
    simp
    repeat refine Does.seq ?_
    refine Does.mono (Q := SaQ gl id1 st2 B) ?loop2 ?tail2
    case loop2 => as_aux_lemma =>
      refine Does.block (Does.up kids.length (fun i fr st' => Keep st2 st' ∧ SaF gl id1 fr ∧ Fr.at fr 6 = .int .i64 (i : Int) ∧ i ≤ kids.length ∧ Upto2 sameC kids kids2 i) 0 ?init ?bound ?step)
      case init => exact ⟨.refl st2, ⟨by simp [hds], by simp [hg], by simp [h2], by simp [h3]⟩, by simp, Nat.zero_le _, upto2_zero _ _ _⟩
      case bound => exact fun i fr st' h => h.2.2.2.1
      case step =>
        clear hds hg h2 h3
        rintro i fr st' ⟨hk, ⟨hds, hg, h2, h3⟩, h6, hi, hall⟩
        have elen : ∀ kk, vbin Try.prog kk .lss 3 (.int .i64 (i : Int)) (.int .i64 (kids.length : Int)) = some (.bool (decide (i < kids.length))) := fun kk => vI_lss rfl
        have b1' : st'.box.get id1 = some (.cells [.int .u8 (k : Int), .int .i64 a, .str nm, wv, kv] 25 true (some 0)) := by rw [hk.box _ (by omega)]; exact c1
        have b2' : st'.box.get (id1 + 1) = some (.cells [.int .u8 (k2 : Int), .int .i64 a2, .str nm2, wv2, kv2] 25 true (some 0)) := by rw [hk.box _ (by omega)]; exact c2
        have l4' := vload_of (P := Try.prog) (off := 4) sa23 sz23 b1' rfl
        repeat refine Does.seq ?_
        refine Does.region ?_
        by_cases hlt : i < kids.length
        rotate_left
        · rw [decide_eq_false hlt] at elen
          simp [h2, h6, f4, l4', lk, elen]
          repeat refine Does.seq ?_
          refine Does.condF (by simp) ?_
          refine Does.exit ?_
          simp only [inBlock, if_true, andThen]
          exact .inr ⟨rfl, hk, ⟨by simp [hds], by simp [hg], by simp [h2], by simp [h3]⟩, by rw [← hB]; exact upto2_end hlen2 hall (by omega)⟩
        · rw [decide_eq_true hlt] at elen
          have hlt' : i < kids2.length := by omega
          obtain ⟨r, g1⟩ := hkv.get (z := 5) (fun c _ => c.len5) Try.underlying23 z25 hlt
          have i1 := g1 .i64
          obtain ⟨r', g1'⟩ := hkv2.get (z := 5) (fun c _ => c.len5) Try.underlying23 z25 hlt'
          have i2 := g1' .i64
          have hm := List.getElem_mem hlt
          have hm' := List.getElem_mem hlt'
          have hkt : Keep st2 { ctr := st'.ctr + 12, box := st'.box } := hk.tick 12
          have l4t := vload_of (P := Try.prog) (st := { ctr := st'.ctr + 12, box := st'.box }) (off := 4) sa23 sz23 b1' rfl
          have k4t := vload_of (P := Try.prog) (st := { ctr := st'.ctr + 12, box := st'.box }) (off := 4) sa23 sz23 b2' rfl
          have hld := load25 kids[i] r { ctr := st'.ctr + 12, box := st'.box }
          have hld2 := load25 kids2[i] r' { ctr := st'.ctr + 12, box := st'.box }
          have hstep := fun h => upto2_step hall hlt hlt' h
          have hnot := fun h => upto2_no (p := sameC) hlt hlt' h
          have w1 : IntKind.i64.wrap ((i : Int) + 1) = (i : Int) + 1 := wrap_i64 (by omega) (by omega)
          obtain ⟨v, st5, hc, rfl, hk5⟩ := ih _ hm (hks' _ hm) _ (hks2 _ hm') (hks2' _ hm') { ctr := st'.ctr + 12, box := st'.box }
          have hc := ihCall_W hc
          have va : veq 1000000000 (.agg kids[i].cells) (.agg kids[i].cells) = true := veq_self _ (Cw.vsz (hks' _ hm))
          have vb : veq 1000000000 (.agg kids2[i].cells) (.agg kids2[i].cells) = true := veq_self _ (Cw.vsz (hks2' _ hm'))
          generalize sameC kids[i] kids2[i] = mb at hc hstep hnot
          generalize kids[i].cells = cs at hld hc i1 va
          generalize kids2[i].cells = cs' at hld2 hc i2 vb
          simp [h2, h6, f4, l4', lk, elen]
          repeat refine Does.seq ?_
          refine Does.condT (by simp) ?_
          refine Does.skip ?_
          simp
          repeat refine Does.seq ?_
          refine Does.block ?_
          repeat refine Does.seq ?_
          refine Does.draw (b := [0, 1, 0, 7, 15, 0, 32, 0, 224, 480, 1023, 2047]) (l := [0, 1, 2, 3, 4, 5, 6, 7, 8, 9, 10, 11]) (by kernel_rfl) (by kernel_rfl) (by kernel_rfl) ?_
          simp [sameIn, h2, h3, h6, f4, g4, l4t, k4t, i1, i2, hld, hld2, vk, vk2, va, vb, hg, vcall_callable hk10, hc]
          repeat refine Does.seq ?_
          cases mb with
          | false =>
            refine Does.condT (by simp) ?_
            repeat refine Does.seq ?_
            refine Does.region ?_
            simp
            refine Does.ret ?_
            simp only [andThen, inBlock]
            exact .inl ⟨rfl, hkt.trans hk5, by simp [hds], by simp, by rw [← hB]; exact hnot rfl⟩
          | true =>
            refine Does.condF (by simp) ?_
            refine Does.skip ?_
            simp only [andThen, inBlock]
            refine Does.region ?_
            simp [h6, vbin_add, w1]
            exact ⟨i + 1, by omega, hkt.trans hk5, ⟨by simp [hds], by simp [hg], by simp [h2], by simp [h3]⟩, by simp, by omega, hstep rfl⟩
    case tail2 => as_aux_lemma =>
      clear hds hg h2 h3
      rintro e fr st3 (⟨rfl, hk, hds, h4, rfl⟩ | ⟨rfl, hk, ⟨hds, hg, h2, h3⟩, rfl⟩)
      · simp only [andThen]
        simp [hds, h4]
        exact hk12.trans hk
      simp only [andThen]
      repeat refine Does.seq ?_
      refine Does.region ?_
      simp
      refine Does.ret ?_
      simp [hds]
      exact hk12.trans hk
end Go.Vm

namespace Go.Vm
open Go Go.Proofs Go.Sy
attribute [local simp] Oks xOps vwanted isDefer vop kindOf vpure ev evs toV andThen inBlock atTo_some Fr.dsTo Fr.glTo Fr.toNone initFr_at initFr_ds initFr_gl veff traverse tupled vresult V.undef evOpt xDraw xStep

theorem vbin_quo64 {P : Program} {kk : Bool} {T : TypeId} (a : Int) : vbin P kk .quo T (.int .i64 a) (.int .i64 64) = some (.int .i64 (IntKind.i64.wrap (a.tdiv 64))) := by
  have h : vbin P kk .quo T (.int .i64 a) (.int .i64 64) = viaSem P (fun l => binOp .quo T (l.getD 0 undef) (l.getD 1 undef)) [.int .i64 a, .int .i64 64] := by simp [vbin]
  rw [h]
  rfl

def IntAt (fr : Fr) (t : Nat) : Prop := ∃ n : Int, Fr.at fr t = .int .i64 n
def WtF (gl : Gl) (id1 : Nat) (fr : Fr) : Prop := CmdF gl id1 fr ∧ IntAt fr 3
def WtQ (gl : Gl) (id1 : Nat) (st : St) (e : AE) (fr : Fr) (st' : St) : Prop := e = AE.normal ∧ Keep st st' ∧ WtF gl id1 fr
def WtQ4 (gl : Gl) (id1 i : Nat) (st : St) (e : AE) (fr : Fr) (st' : St) : Prop := e = AE.normal ∧ Keep st st' ∧ WtF gl id1 fr ∧ Fr.at fr 4 = .int .i64 (i : Int)

variable [Memo] [NY]

set_option maxHeartbeats 1000000 in
theorem weight_ok (gl : Gl) (c : Cw) (hok : c.ok) : c.small → ∀ st : St,
    ∃ v st', W Try.prog (.call gl 4 [.agg c.cells]) st = .call (.val v st') ∧ (∃ n : Int, v = .int .i64 n) ∧ Keep st st' := by
  induction hok with
  | mk k a nm wv ws kv kids hk hw hws hkv hks ih =>
  intro hsm st
  cases hsm with
  | mk _ _ _ _ _ _ _ hn hwl hkl hwz hkz hws' hks' =>
  have hk11 : callable Try.prog 4 = true := by kernel_rfl
  have ow := hw.one
  have okv := hkv.one
  have oi : ∀ k n, oneC (.int k n) = true := fun _ _ => rfl
  have os : ∀ s, oneC (.str s) = true := fun _ => rfl
  have lx := hw.len Try.underlying22
  have lk := hkv.len Try.underlying23
  refine call_ex (NY.no _ rfl rfl _ _) Try.func4 rfl (by kernel_rfl) ?_
  repeat refine Does.seq ?_
  refine Does.region ?_
  simp [valloc, V.cells, Cw.cells, ow, oi, os, okv, mkRef]
  have hk1 := newCmd_keep st k a nm wv kv
  have b1 := newCmd_box st k a nm wv kv
  have hct := newCmd_ctr st k a nm wv kv
  rw [show ({ ctr := st.ctr + 1, box := st.box.put st.ctr (.cells [.int .u8 (k : Int), .int .i64 a, .str nm, wv, kv] 25 true (some 0)) } : St) = newCmd st k a nm wv kv from rfl]
  revert hk1 b1 hct
  generalize newCmd st k a nm wv kv = st1
  generalize hid1 : st.ctr = id1
  intro hk1 b1 hct
  have l4 := vload_of (P := Try.prog) (off := 4) sa23 sz23 b1 rfl
  have f0 := cg0 id1
  have f2 := cg2 id1
  have f3 := cg3 id1
  have f4 := cg4 id1
  have l2 := vload_of (P := Try.prog) (off := 2) sa9 sz9 b1 rfl
  have ln : vlen Try.prog 9 (.str nm) = some (.int .i64 (nm.n : Int)) := vlen_str Try.underlying9
  repeat refine Does.seq ?_
  refine Does.region ?_
  refine Oks.cont (Q := fun fr st' => AtSt st1 st' ∧ WtF gl id1 fr) ?r1 ?t1
  case r1 => as_aux_lemma =>
    simp [f2, l2, ln, vbin_quo64, vbin_add]
    exact ⟨rfl, ⟨by simp, by simp, by simp⟩, _, by simp; rfl⟩
  case t1 => as_aux_lemma =>
  rintro fr st' ⟨hst', hf⟩
  rw [show st' = st1 from hst']
  clear hst'
  simp only [andThen]
  repeat refine Does.seq ?_
  refine Does.region ?_
  simp
  repeat refine Does.seq ?_
  refine Does.mono (Q := WtQ gl id1 st1) ?loop ?tail
  case loop => as_aux_lemma =>
    obtain ⟨⟨hds, hg, h1⟩, n, h3⟩ := hf
    refine Does.block (Does.up ws.length (fun i fr st' => Keep st1 st' ∧ WtF gl id1 fr ∧ Fr.at fr 4 = .int .i64 (i : Int) ∧ i ≤ ws.length) 0 ?init ?bound ?step)
    case init => exact ⟨.refl st1, ⟨⟨by simp [hds], by simp [hg], by simp [h1]⟩, n, by simp [h3]⟩, by simp, Nat.zero_le _⟩
    case bound => exact fun i fr st' h => h.2.2.2
    case step =>
      clear hds hg h1 h3
      rintro i fr st' ⟨hk, ⟨⟨hds, hg, h1⟩, n, h3⟩, h4, hi⟩
      have elen : ∀ kk, vbin Try.prog kk .lss 3 (.int .i64 (i : Int)) (.int .i64 (ws.length : Int)) = some (.bool (decide (i < ws.length))) := fun kk => vI_lss rfl
      have e3 : ∀ kk, vbin Try.prog kk .lss 3 (.int .i64 n) (.int .i64 3000) = some (.bool (decide (n < 3000))) := fun kk => vbin_lss
      generalize decide (n < 3000) = D at e3
      have b1' : st'.box.get id1 = some (.cells [.int .u8 (k : Int), .int .i64 a, .str nm, wv, kv] 25 true (some 0)) := by rw [hk.box _ hct]; exact b1
      have l3' := vload_of (P := Try.prog) (off := 3) sa22 sz22 b1' rfl
      repeat refine Does.seq ?_
      refine Does.region ?_
      by_cases hlt : i < ws.length
      rotate_left
      · rw [decide_eq_false hlt] at elen
        simp [h1, h4, f3, l3', lx, elen]
        repeat refine Does.seq ?_
        refine Does.condF (by simp) ?_
        refine Does.exit ?_
        simp only [inBlock, if_true, andThen]
        exact ⟨rfl, hk, ⟨by simp [hds], by simp [hg], by simp [h1]⟩, n, by simp [h3]⟩
      rw [decide_eq_true hlt] at elen
      cases D with
      | false =>
        simp [h1, h4, f3, l3', lx, elen, h3, e3]
        repeat refine Does.seq ?_
        refine Does.condF (by simp) ?_
        refine Does.exit ?_
        simp only [inBlock, if_true, andThen]
        exact ⟨rfl, hk, ⟨by simp [hds], by simp [hg], by simp [h1]⟩, n, by simp [h3]⟩
      | true =>
      simp [h1, h4, f3, l3', lx, elen, h3, e3]
      repeat refine Does.seq ?_
      refine Does.condT (by simp) ?_
      refine Does.skip ?_
      simp
      repeat refine Does.seq ?_
      refine Does.block ?_
      repeat refine Does.seq ?_
      refine Does.region ?_
      simp [h3, vbin_add]
      repeat refine Does.seq ?_
      refine Does.region ?_
      simp
      obtain ⟨r, g1⟩ := hw.get (z := 2) (fun c _ => c.len2) Try.underlying22 z31 hlt
      have i1 := g1 .i64
      have hm := List.getElem_mem hlt
      have hwo := hws _ hm
      have hwsm := hws' _ hm
      refine Does.mono (Q := WtQ4 gl id1 i st1) ?inner ?next
      case next => as_aux_lemma =>
        clear hds hg h1 h3 h4
        rintro e fr st2 ⟨rfl, hk2, ⟨⟨hds, hg, h1⟩, n, h3⟩, h4⟩
        simp only [andThen, inBlock]
        have w1 : IntKind.i64.wrap ((i : Int) + 1) = (i : Int) + 1 := wrap_i64 (by omega) (by omega)
        refine Does.region ?_
        simp [h4, vbin_add, w1]
        exact ⟨i + 1, by omega, hk2, ⟨⟨by simp [hds], by simp [hg], by simp [h1]⟩, n, by simp [h3]⟩, by simp, by omega⟩
      case inner => as_aux_lemma =>
        generalize ws[i] = w at i1 hwo hwsm
        refine Does.block (Does.up w.l.length (fun j fr st' => Keep st1 st' ∧ WtF gl id1 fr ∧ Fr.at fr 4 = .int .i64 (i : Int) ∧ Fr.at fr 5 = .int .i64 (j : Int) ∧ j ≤ w.l.length) 0 ?init ?bound ?step)
        case init => exact ⟨hk, ⟨⟨by simp [hds], by simp [hg], by simp [h1]⟩, _, by simp; rfl⟩, by simp [h4], by simp, Nat.zero_le _⟩
        case bound => exact fun i fr st' h => h.2.2.2.2
        case step =>
          clear hds hg h1 h3 h4 e3 l3' b1' hk
          rintro j fr st' ⟨hk, ⟨⟨hds, hg, h1⟩, n, h3⟩, h4, h5, hj⟩
          have ejl : ∀ kk, vbin Try.prog kk .lss 3 (.int .i64 (j : Int)) (.int .i64 (w.l.length : Int)) = some (.bool (decide (j < w.l.length))) := fun kk => vI_lss rfl
          have e3 : ∀ kk, vbin Try.prog kk .lss 3 (.int .i64 n) (.int .i64 3000) = some (.bool (decide (n < 3000))) := fun kk => vbin_lss
          generalize decide (n < 3000) = D at e3
          have b1' : st'.box.get id1 = some (.cells [.int .u8 (k : Int), .int .i64 a, .str nm, wv, kv] 25 true (some 0)) := by rw [hk.box _ hct]; exact b1
          have l3' := vload_of (P := Try.prog) (off := 3) sa22 sz22 b1' rfl
          have fx0 : vfieldAddr Try.prog 31 (.cp (w.cells ++ r)) 0 = some (.cp (w.cells ++ r)) := by kernel_rfl
          have lx0 : vload Try.prog st' 29 (.cp (w.cells ++ r)) = some w.x := by
            simp only [vload, vpart, sa29, sz29, Ww.cells]; rfl
          have hvx : Vp st' w.x w.l := Row.vp hwo st'
          have lw := hvx.len
          repeat refine Does.seq ?_
          refine Does.region ?_
          by_cases hjt : j < w.l.length
          rotate_left
          · generalize w.cells ++ r = wr at i1 fx0 lx0
            rw [decide_eq_false hjt] at ejl
            simp [h1, h4, h5, f3, l3', i1, fx0, lx0, lw, ejl]
            repeat refine Does.seq ?_
            refine Does.condF (by simp) ?_
            refine Does.exit ?_
            simp only [inBlock, if_true, andThen]
            exact ⟨rfl, hk, ⟨⟨by simp [hds], by simp [hg], by simp [h1]⟩, n, by simp [h3]⟩, by simp [h4]⟩
          rw [decide_eq_true hjt] at ejl
          obtain ⟨pa, g3, g4⟩ := hvx.get hjt
          generalize w.l.getD j default = p at g4
          obtain ⟨_, _, ⟨p1, m1, n1⟩, _⟩ := g4.loads
          have i3 := g3 .i64
          have lt : vlen Try.prog 9 (.str p.t) = some (.int .i64 (p.t.n : Int)) := vlen_str Try.underlying9
          have w1 : IntKind.i64.wrap ((j : Int) + 1) = (j : Int) + 1 := wrap_i64 (by omega) (by have := hwsm.1; omega)
          generalize hii : (i : Int) = ii at h4 i1
          generalize hjj : (j : Int) = jj at h5 i3 ejl w1
          generalize w.cells ++ r = wr at i1 fx0 lx0
          cases D with
          | false =>
            simp [h1, h4, h5, f3, l3', i1, fx0, lx0, lw, ejl, h3, e3]
            repeat refine Does.seq ?_
            refine Does.condF (by simp) ?_
            refine Does.exit ?_
            simp only [inBlock, if_true, andThen]
            exact ⟨rfl, hk, ⟨⟨by simp [hds], by simp [hg], by simp [h1]⟩, n, by simp [h3]⟩, by simp [h4, hii]⟩
          | true =>
          simp [h1, h4, h5, f3, l3', i1, fx0, lx0, lw, ejl, h3, e3]
          repeat refine Does.seq ?_
          refine Does.condT (by simp) ?_
          refine Does.skip ?_
          simp
          repeat refine Does.seq ?_
          refine Does.block ?_
          repeat refine Does.seq ?_
          refine Does.region ?_
          refine Oks.cont (Q := fun fr st'' => AtSt st' st'' ∧ WtF gl id1 fr ∧ Fr.at fr 4 = .int .i64 ii ∧ Fr.at fr 5 = .int .i64 jj) ?r9 ?t9
          case r9 => as_aux_lemma =>
            simp [h1, h3, h4, h5, f3, l3', i1, fx0, lx0, i3, m1, n1, lt, vbin_quo64, vbin_add]
            exact ⟨rfl, ⟨by simp [hds], by simp [hg], by simp [h1]⟩, _, by simp; rfl⟩
          case t9 => as_aux_lemma =>
          clear hds hg h1 h3 h4 h5
          rintro fr st'' ⟨hst', ⟨⟨hds, hg, h1⟩, n, h3⟩, h4, h5⟩
          rw [show st'' = st' from hst']
          clear hst'
          simp only [andThen, inBlock]
          repeat refine Does.seq ?_
          refine Does.region ?_
          simp [h5, vbin_add, w1]
          exact ⟨j + 1, by omega, hk, ⟨⟨by simp [hds], by simp [hg], by simp [h1]⟩, n, by simp [h3]⟩, by simp [h4, hii], by simp [← hjj], by omega⟩
  case tail => as_aux_lemma =>
    rintro e fr st2 ⟨rfl, hk, hf⟩
    simp only [andThen]
    have b2 : st2.box.get id1 = some (.cells [.int .u8 (k : Int), .int .i64 a, .str nm, wv, kv] 25 true (some 0)) := by rw [hk.box _ hct]; exact b1
    have hct2 : id1 < st2.ctr := Nat.lt_of_lt_of_le hct hk.ctr
    have hk12 := hk1.trans hk
    clear hk b1
    repeat refine Does.seq ?_
    refine Does.region ?_
    simp
    repeat refine Does.seq ?_
    refine Does.mono (Q := WtQ gl id1 st2) ?loop2 ?tail2
    case loop2 => as_aux_lemma =>
      obtain ⟨⟨hds, hg, h1⟩, n, h3⟩ := hf
      refine Does.block (Does.up kids.length (fun i fr st' => Keep st2 st' ∧ WtF gl id1 fr ∧ Fr.at fr 6 = .int .i64 (i : Int) ∧ i ≤ kids.length) 0 ?init ?bound ?step)
      case init => exact ⟨.refl st2, ⟨⟨by simp [hds], by simp [hg], by simp [h1]⟩, n, by simp [h3]⟩, by simp, Nat.zero_le _⟩
      case bound => exact fun i fr st' h => h.2.2.2
      case step =>
        clear hds hg h1 h3
        rintro i fr st' ⟨hk, ⟨⟨hds, hg, h1⟩, n, h3⟩, h6, hi⟩
        have elen : ∀ kk, vbin Try.prog kk .lss 3 (.int .i64 (i : Int)) (.int .i64 (kids.length : Int)) = some (.bool (decide (i < kids.length))) := fun kk => vI_lss rfl
        have e3 : ∀ kk, vbin Try.prog kk .lss 3 (.int .i64 n) (.int .i64 3000) = some (.bool (decide (n < 3000))) := fun kk => vbin_lss
        generalize decide (n < 3000) = D at e3
        have b2' : st'.box.get id1 = some (.cells [.int .u8 (k : Int), .int .i64 a, .str nm, wv, kv] 25 true (some 0)) := by rw [hk.box _ hct2]; exact b2
        have l4' := vload_of (P := Try.prog) (off := 4) sa23 sz23 b2' rfl
        repeat refine Does.seq ?_
        refine Does.region ?_
        by_cases hlt : i < kids.length
        rotate_left
        · rw [decide_eq_false hlt] at elen
          simp [h1, h6, f4, l4', lk, elen]
          repeat refine Does.seq ?_
          refine Does.condF (by simp) ?_
          refine Does.exit ?_
          simp only [inBlock, if_true, andThen]
          exact ⟨rfl, hk, ⟨by simp [hds], by simp [hg], by simp [h1]⟩, n, by simp [h3]⟩
        rw [decide_eq_true hlt] at elen
        cases D with
        | false =>
          simp [h1, h6, f4, l4', lk, elen, h3, e3]
          repeat refine Does.seq ?_
          refine Does.condF (by simp) ?_
          refine Does.exit ?_
          simp only [inBlock, if_true, andThen]
          exact ⟨rfl, hk, ⟨by simp [hds], by simp [hg], by simp [h1]⟩, n, by simp [h3]⟩
        | true =>
        obtain ⟨r, g1⟩ := hkv.get (z := 5) (fun c _ => c.len5) Try.underlying23 z25 hlt
        have i1 := g1 .i64
        have hm := List.getElem_mem hlt
        have hld := load25 kids[i] r st'
        obtain ⟨v, st5, hc, ⟨m, rfl⟩, hk5⟩ := ih _ hm (hks' _ hm) st'
        have hc := ihCall_W hc
        have w1 : IntKind.i64.wrap ((i : Int) + 1) = (i : Int) + 1 := wrap_i64 (by omega) (by omega)
        generalize kids[i].cells = cs at hld hc i1
        simp [h1, h6, f4, l4', lk, elen, h3, e3]
        repeat refine Does.seq ?_
        refine Does.condT (by simp) ?_
        refine Does.skip ?_
        simp
        repeat refine Does.seq ?_
        refine Does.block ?_
        repeat refine Does.seq ?_
        refine Does.region ?_
        simp [h1, h3, h6, f4, l4', i1, hld, hg, vcall_callable hk11, hc, vbin_add]
        repeat refine Does.seq ?_
        refine Does.region ?_
        simp [h6, vbin_add, w1]
        exact ⟨i + 1, by omega, hk.trans hk5, ⟨⟨by simp [hds], by simp [hg], by simp [h1]⟩, _, by simp; rfl⟩, by simp, by omega⟩
    case tail2 => as_aux_lemma =>
      rintro e fr st3 ⟨rfl, hk, ⟨⟨hds, hg, h1⟩, n, h3⟩⟩
      simp only [andThen]
      repeat refine Does.seq ?_
      refine Does.region ?_
      simp [h3]
      refine Does.ret ?_
      simp [hds]
      exact hk12.trans hk
end Go.Vm
