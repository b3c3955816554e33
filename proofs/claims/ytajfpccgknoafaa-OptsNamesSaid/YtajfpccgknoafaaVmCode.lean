/- Rows of operations, code, calls. -/
import Derived.Test.YtajfpccgknoafaaVmOp
import Derived.Scope
namespace Go.Vm
open Go Go.RowKit

theorem vextern_run {P : Program} {g : Gh} {fn : Func} {args : List V} {v : V} (h : vextern P fn args = some v) {cargs : List Value} (hr : Rs g args cargs) (w : World) :
    Extern.findNext fn = none ∧ ∃ e c, Extern.find fn = some e ∧ (e ⟨cargs⟩).run P w = .ok c w ∧ R g v c := by
  unfold vextern at h
  split at h
  · simp at h
  · rename_i h1
    split at h
    · rename_i e he
      obtain ⟨c, h2, h3⟩ := viaSem_run h hr w
      exact ⟨h1, e, c, he, h2, h3⟩
    · simp at h

/-- what is asked of the calls -/
def CallOk (P : Program) (base : Nat) (ih : CallF) : Prop :=
  ∀ f args st, match ih f args st with
    | .val v st' => ∀ g w cargs, Inv base g st.abs w → Rs g args cargs →
        Calls P f ⟨cargs⟩ w fun e w' => ∃ g' c, e = .returned c ∧ R g' v c ∧ Inv base g' st'.abs w' ∧ Ext base g st.abs w g' st'.abs w'
    | .panic v st' => ∀ g w cargs, Inv base g st.abs w → Rs g args cargs →
        Calls P f ⟨cargs⟩ w fun e w' => ∃ g' c, e = .panicked [{ v := c, recovered := false }] ∧ R g' v c ∧ Inv base g' st'.abs w' ∧ Ext base g st.abs w g' st'.abs w'
    | .fail _ => True

/-- what a result of an operation promises -/
def OpPost (base : Nat) (g : Gh) (s : SS) (w : World) (a : Act) (dst : Option Tmp) (K : Act → World → Prop) (Q : Exit → Act → World → Prop) : ER → Prop
  | .val v st' => ∀ g' c w', R g' v c → Inv base g' st'.abs w' → Ext base g s w g' st'.abs w' → K (a.put dst c) w'
  | .panic v st' => ∀ g' c w', R g' v c → Inv base g' st'.abs w' → Ext base g s w g' st'.abs w' → Q (.panic [{ v := c, recovered := false }]) a w'
  | .fail _ => False

theorem wp_of_gives {P : Program} {base : Nat} {g : Gh} {s : SS} {w : World} {o : Oper} {a : Act} {v : V} {st' : St} {K : Act → World → Prop} {Q : Exit → Act → World → Prop}
    (h : Gives P base g s w ((execOp a.eval o).run P w) v st'.abs) (hp : OpPost base g s w a o.dst K Q (.val v st')) : o.wp P a w K Q := by
  obtain ⟨g', c, w', h1, h2, h3, h4⟩ := h
  unfold Oper.wp
  rcases h1 with h1 | ⟨h1, rfl⟩
  · rw [h1]; exact hp g' c w' h2 h3 h4
  · rw [h1]; exact hp g' _ w' h2 h3 h4

theorem wp_of_enter {P : Program} {o : Oper} {a : Act} {w : World} {K : Act → World → Prop} {Q : Exit → Act → World → Prop} {f : FuncId} {args : Array Value}
    (h : (execOp a.eval o).run P w = .ok (.enter f args) w) {R : Ending → World → Prop} (hc : Calls P f args w R)
    (hr : ∀ e w', R e w' → (∃ c, e = .returned c ∧ K (a.put o.dst c) w') ∨ (∃ ch, e = .panicked ch ∧ Q (.panic ch) a w')) : o.wp P a w K Q := by
  unfold Oper.wp
  rw [h, Oper.upon_enter]
  refine hc.mono fun e w' he => ?_
  rcases hr e w' he with ⟨c, rfl, h⟩ | ⟨ch, rfl, h⟩
  · exact h
  · exact h

theorem abs_newVar (st : St) (cs : List V) : { (st.abs.putBox st.ctr cs) with ctr := st.ctr + 1 } = ({ st with ctr := st.ctr + 1, box := st.box.put st.ctr cs } : St).abs := by
  have := abs_putBox st st.ctr cs
  simp only [St.abs, SS.putBox] at this ⊢
  congr 1
  injection this with _ h2 _
  exact h2.symm

theorem valloc_run {P : Program} {g : Gh} {N : Nat} {fr : Fr} {a : Act} (hf : FR g N fr a) (o : Oper) {cs : List V} (h : valloc P fr o.op = some cs) (w : World) :
    ∃ l e, (execOp a.eval o).run P w = .ok (.value (.pointer (some ⟨w.heap.size, 0, none⟩))) (w.alloc (.cells ⟨l⟩ e)) ∧ Rs g cs l := by
  obtain ⟨dst, op, type, pos, after, guard⟩ := o
  simp only at h
  unfold valloc at h
  split at h
  · rename_i t
    split at h
    · rename_i z hz
      simp only [Option.some.injEq] at h; subst h
      obtain ⟨zc, h1, h2⟩ := zeroT_run hz g
      refine ⟨zc.cells.toList, t, ?_, h2.cells⟩
      simp [execOp, Instr.alloc, h1, newVar, newRow]
    · simp at h
  · rename_i t x
    split at h
    · rename_i v hv
      simp only [Option.some.injEq] at h; subst h
      have hr := ev_R hf hv
      refine ⟨(a.eval x).cells.toList, t, ?_, hr.cells⟩
      simp [execOp, Instr.box, newVar, newRow]
    · simp at h
  · simp at h

theorem vmake_run {P : Program} {base : Nat} {g : Gh} {st st' : St} {w : World} (hi : Inv base g st.abs w) {t : TypeId} {l c v : V} (h : vmake P st t l c = some (v, st')) {cl cc : Value} (hl : R g l cl) (hc : R g c cc) :
    ∃ g' r w', (Instr.makeSlice t cl cc).run P w = .ok r w' ∧ R g' v r ∧ Inv base g' st'.abs w' ∧ Ext base g st.abs w g' st'.abs w' := by
  unfold vmake at h
  split at h
  rotate_left
  · simp at h
  rename_i e hu
  split at h
  rotate_left
  · simp at h
  rename_i i zv ln cn hie hzv hln hcn
  obtain ⟨kl, rfl⟩ := asNat_R hln hl
  obtain ⟨kc, rfl⟩ := asNat_R hcn hc
  split at h
  rotate_left
  · simp at h
  rename_i hb
  obtain ⟨b1234, b5⟩ := and3 hb
  obtain ⟨b123, b4⟩ := and3 b1234
  obtain ⟨b12, b3⟩ := and3 b123
  obtain ⟨b1, b2⟩ := and3 b12
  have b1 := Nat.le_of_ble_eq_true b1
  have b2 := Nat.le_of_ble_eq_true b2
  have b3 := Nat.le_of_ble_eq_true b3
  have b4 := Nat.eq_of_beq_eq_true b4
  unfold maxBytes at b2 b3
  have hz1 : 0 < i.size := by
    cases hz2 : i.size with
    | zero => rw [hz2] at b5; simp at b5
    | succ k => exact Nat.succ_pos k
  obtain ⟨i', zc, hi', hzc, hzR⟩ := zeroT_R hzv g
  have : i' = i := by rw [hie] at hi'; simpa using hi'.symm
  subst this
  have hzcl : zc.cells.toList.length = i'.size := by rw [← hzR.cells.len, b4]
  have hrun := run_make (P := P) w t e i' zc hu hie hzc kl kc (ln : Int) (cn : Int) (by omega) (by omega) (by have : ((i'.bytes * cn : Nat) : Int) ≤ 281474976710656 := by omega
                                                                                                              simpa using this) (by omega)
  have hmade : madeCells zc.cells (cn * i'.size) = ⟨zerosC zc.cells.toList cn⟩ := by
    have := zero_cells zc.cells.toList cn (by omega)
    rw [hzcl] at this
    exact this
  simp only [Int.toNat_natCast, hmade] at hrun
  have hRz : Rs g (zeros zv.cells cn) (zerosC zc.cells.toList cn) := zeros_R hzR.cells cn
  split at h
  · rename_i h0
    have h0 := Nat.eq_of_beq_eq_true h0
    subst h0
    simp only [Option.some.injEq, Prod.mk.injEq] at h
    obtain ⟨rfl, rfl⟩ := h
    obtain ⟨j1, j2⟩ := hi.end_ (w' := w.alloc (.cells ⟨zerosC zc.cells.toList cn⟩ e)) (b := w.heap.size) (p := 0) (news := []) (L := zerosC zc.cells.toList cn) (e := e) (by simp) hi.size (heap_alloc_new w _) (fun b' hb' _ => Below.heap_alloc w _ b' hb')
      (fun k c hk => by simp at hk) (fun o _ => hi.nopub o) (fun o c h => by rw [hi.nopub] at h; simp at h) (fun k h => by have := (hi.boxat k _ h).2.1; omega)
      (fun k o n' h => by
        cases hsp : st.abs.spent k with
        | true => rfl
        | false =>
          obtain ⟨_, ⟨l', e', h2, _⟩, _⟩ := hi.tok k _ _ _ h hsp
          exact absurd (Array.getElem?_eq_some_iff.1 h2).1 (Nat.lt_irrefl _))
    refine ⟨_, _, _, hrun, ?_, j1, ⟨j2, Nat.le_succ _, (Below.refl _ _).alloc hi.size _, fun b' hb' _ => Below.heap_alloc w _ b' hb', fun b' hb' ho => ?_, fun k hk hn' => ⟨hn', rfl⟩, fun k hk => ?_⟩⟩
    · refine .sl _ _ _ _ _ _ [] .nil (fun k c hk => by simp at hk) (Nat.zero_le _) (.inr ⟨(zerosC zc.cells.toList cn).length, ?_, by simp, ?_, hz1⟩)
      · show (if st.ctr = st.ctr then some _ else _) = _
        rw [if_pos rfl]
        rfl
      · rw [zerosC_len, hzcl, Nat.zero_add]
    · rcases ho with ⟨k, ks, h1, h2⟩ | ⟨k, o, n', h1, h2⟩
      · exact .inl ⟨k, ks, h1, h2⟩
      · have h1 : (if k = st.ctr then some (w.heap.size, _, _) else g.tok k) = some (b', o, n') := h1
        split at h1
        · simp only [Option.some.injEq, Prod.mk.injEq] at h1
          omega
        · exact .inr ⟨k, o, n', h1, h2⟩
    · have : k < st.ctr := hk
      show (if k = st.ctr then _ else g.tok k) = g.tok k
      rw [if_neg (by omega)]
  · simp only [Option.some.injEq, Prod.mk.injEq] at h
    obtain ⟨rfl, rfl⟩ := h
    obtain ⟨g', j1, j2, j3⟩ := hi.newVar hRz e
    refine ⟨g', _, _, hrun, .ms _ _ _ _ _ _ _ j3 b1 (.inr rfl) (fun h => (Nat.eq_of_beq_eq_true h).symm), (abs_newVar st _) ▸ j1, (abs_newVar st _) ▸ j2⟩

theorem veff_wp {P : Program} {base : Nat} {ih : CallF} (hih : CallOk P base ih) {g : Gh} {st : St} {w : World} (hi : Inv base g st.abs w) {N : Nat} {fr : Fr} {a : Act} (hf : FR g N fr a) (o : Oper)
    {K : Act → World → Prop} {Q : Exit → Act → World → Prop} (hp : OpPost base g st.abs w a o.dst K Q (veff P ih fr st o.op)) : o.wp P a w K Q := by
  obtain ⟨dst, op, type, pos, after, guard⟩ := o
  simp only at hp
  unfold veff at hp
  split at hp
  · -- store
    rename_i t x y
    split at hp
    · rename_i u v hu hv
      split at hp
      · rename_i st' hst
        obtain ⟨w', h1, h2, h3⟩ := vstore_run hi hst (ev_R hf hu) (ev_R hf hv)
        refine wp_of_gives (v := .undef) (st' := st') ⟨g, Go.undef, w', .inr ⟨?_, rfl⟩, R.undef g, h2, h3⟩ hp
        simp only [execOp, Sem.run_bind, h1]
        rfl
      · exact hp.elim
    · exact hp.elim
  · -- makeSlice
    rename_i t l c
    split at hp
    · rename_i l' c' hl hc
      split at hp
      · rename_i v st' hm
        obtain ⟨g', c, w', h1, h2, h3, h4⟩ := vmake_run hi hm (ev_R hf hl) (ev_R hf hc)
        refine wp_of_gives ⟨g', c, w', .inl ?_, h2, h3, h4⟩ hp
        simp only [execOp, Sem.run_bind, h1]
        rfl
      · exact hp.elim
    · exact hp.elim
  · -- panic
    rename_i x
    split at hp
    · rename_i t v hx
      have hr := ev_R hf hx
      unfold Oper.wp
      have : (execOp a.eval { dst, op := .panic x, type, pos, after, guard }).run P w = .halt (.panic (a.eval x)) w := by
        simp only [execOp, Sem.run_bind]
        cases hcc : a.eval x <;> rw [hcc] at hr <;> cases hr
        simp [Instr.panic]
      rw [this]
      exact hp g _ w hr hi (Ext.refl _ _ _ _)
    · exact hp.elim
  · -- append
    rename_i b ts
    split at hp
    · rename_i x y t u hb ht
      have eb : b = #[x, y] := by apply Array.ext'; simpa using hb
      have et : ts = #[t, u] := by apply Array.ext'; simpa using ht
      subst eb et
      split at hp
      · rename_i e s' x' hu hs hx
        split at hp
        · rename_i v st' hap
          obtain ⟨g', c, w', h1, h2, h3, h4⟩ := vappend_run (ty := type) hi hap (.inl ⟨e, hu⟩) (ev_R hf hs) (ev_R hf hx)
          refine wp_of_gives ⟨g', c, w', .inl ?_, h2, h3, h4⟩ hp
          simp [execOp, resolve, invoke, builtin, h1]
        · exact hp.elim
      · rename_i s' x' hu hs hx
        split at hp
        · rename_i v st' hap
          obtain ⟨g', c, w', h1, h2, h3, h4⟩ := vappend_run (ty := type) hi hap (.inr hu) (ev_R hf hs) (ev_R hf hx)
          refine wp_of_gives ⟨g', c, w', .inl ?_, h2, h3, h4⟩ hp
          simp [execOp, resolve, invoke, builtin, h1]
        · exact hp.elim
      · exact hp.elim
    · exact hp.elim
  · -- a call
    rename_i fo b ts
    split at hp
    · rename_i f first captured vs hfo hvs
      have hrf := ev_R hf hfo
      have hra := evs_R hf hvs
      cases hcc : a.eval fo <;> rw [hcc] at hrf <;> cases hrf
      rename_i l1 l2 h1 h2
      have hargs := (h1.app hra).app h2
      have e : (b.map a.eval) = ⟨b.toList.map a.eval⟩ := by apply Array.ext'; simp
      have hres : (execOp a.eval { dst, op := .call { callee := .value fo, args := b, argTypes := ts }, type, pos, after, guard }).run P w = (callFunc f ⟨l1 ++ b.toList.map a.eval ++ l2⟩).run P w := by
        simp only [execOp, resolve, hcc, Deferred.ofValue, Sem.run_bind, Sem.run_pure, Result.andThen_ok, invoke, e]
        congr 2
        apply Array.ext'; simp
      unfold vcall at hp
      split at hp
      · exact hp.elim
      · rename_i fn hfn
        split at hp
        · exact hp.elim
        · rename_i hname
          have hname' : ¬ fn.name = "runtime.NumGoroutine" := by simpa using hname
          split at hp
          · rename_i bd hbd
            have henter : (callFunc f ⟨l1 ++ b.toList.map a.eval ++ l2⟩).run P w = .ok (.enter f ⟨l1 ++ b.toList.map a.eval ++ l2⟩) w := by
              simp [callFunc, hfn, hname', hbd]
            have hc := hih f (first ++ vs ++ captured) st
            split at hc
            · rename_i v st' hv
              rw [hv] at hp
              refine wp_of_enter (hres.trans henter) (hc g w _ hi hargs) ?_
              rintro e w' ⟨g', c, rfl, q1, q2, q3⟩
              exact .inl ⟨c, rfl, hp g' c w' q1 q2 q3⟩
            · rename_i v st' hv
              rw [hv] at hp
              refine wp_of_enter (hres.trans henter) (hc g w _ hi hargs) ?_
              rintro e w' ⟨g', c, rfl, q1, q2, q3⟩
              exact .inr ⟨_, rfl, hp g' c w' q1 q2 q3⟩
            · rename_i why hv
              rw [hv] at hp
              exact hp.elim
          · rename_i hbd
            split at hp
            · rename_i v hv
              obtain ⟨q1, e', c, q2, q3, q4⟩ := vextern_run hv hargs w
              refine wp_of_gives (v := v) (st' := st) (.same hi ?_ q4) hp
              rw [hres]
              rw [List.append_assoc] at q3
              simp [callFunc, hfn, hname', hbd, q1, q2, q3]
            · exact hp.elim
    · exact hp.elim
  · exact hp.elim

theorem vop_wp {P : Program} {base : Nat} {ih : CallF} (hih : CallOk P base ih) {g : Gh} {st : St} {w : World} (hi : Inv base g st.abs w) {N : Nat} {fr : Fr} {a : Act} (hf : FR g N fr a) (o : Oper)
    {K : Act → World → Prop} {Q : Exit → Act → World → Prop} (hp : OpPost base g st.abs w a o.dst K Q (vop P ih fr st o.op)) : o.wp P a w K Q := by
  unfold vop at hp
  split at hp
  · split at hp
    · rename_i v hv
      exact wp_of_gives (vpure_run hi hf o hv) hp
    · exact hp.elim
  · split at hp
    · rename_i v hv
      exact wp_of_gives (vpure_run hi hf o hv) hp
    · exact hp.elim
  · split at hp
    · rename_i cs hcs
      split at hp
      · obtain ⟨l, e, h1, h2⟩ := valloc_run hf o hcs w
        obtain ⟨g', j1, j2, j3⟩ := hi.newVar h2 e
        refine wp_of_gives ⟨g', _, _, .inl h1, .ptr _ _ _ j3, ?_, ?_⟩ hp
        · exact (abs_newVar st cs) ▸ j1
        · exact (abs_newVar st cs) ▸ j2
      · exact hp.elim
    · exact hp.elim
  · exact veff_wp hih hi hf o hp


/-! ## a region in the row -/
theorem yields_eq {g : Gh} {N : Nat} {fr : Fr} {a : Act} (hf : FR g N fr a) (d : Tmp) (b : Bool) : (a.tmps[d]? = some (.bool b)) ↔ Fr.at fr d = .bool b := by
  have h := hf.at_ d
  rw [Array.getD_eq_getD_getElem?] at h
  cases ht : a.tmps[d]? with
  | none =>
    rw [ht] at h
    simp only [Option.getD_none] at h
    constructor
    · intro h; simp at h
    · intro hv; rw [hv] at h; cases h
  | some c =>
    rw [ht] at h
    simp only [Option.getD_some] at h
    constructor
    · intro hc
      simp only [Option.some.injEq] at hc
      subst hc
      generalize Fr.at fr d = v at h
      cases h; rfl
    · intro hv; rw [hv] at h; cases h; rfl

theorem vwanted_eq {g : Gh} {N : Nat} {fr : Fr} {a : Act} (hf : FR g N fr a) (ops : Array Oper) (o : Oper) : Region.wanted o (yielded ops a.tmps) = vwanted ops fr o := by
  unfold Region.wanted vwanted
  cases o.guard with
  | none => rfl
  | some p =>
    obtain ⟨j, want⟩ := p
    simp only [yielded]
    cases ops[j]? with
    | none => simp
    | some q =>
      simp only [Option.bind_some]
      cases q.dst with
      | none => simp
      | some d =>
        simp only [Option.bind_some]
        have hy := yields_eq hf d
        cases hv : Fr.at fr d with
        | bool b =>
          have := (hy b).2 hv
          rw [this]
          simp
        | _ =>
          have hno : ∀ b, a.tmps[d]? ≠ some (.bool b) := fun b h => by have := (hy b).1 h; rw [hv] at this; simp at this
          first
            | rfl
            | (simp only; rfl)
            | (simp only
               split <;> rename_i hh
               · split at hh
                 · rename_i b hb; exact absurd hb (hno b)
                 · simp at hh
               · rfl)

def OrPost (base : Nat) (g : Gh) (s : SS) (w : World) (N : Nat) (Q : Exit → Act → World → Prop) : OR → Prop
  | .ok fr' st' => ∀ g' a' w', FR g' N fr' a' → Inv base g' st'.abs w' → Ext base g s w g' st'.abs w' → Q .normal a' w'
  | .panic v fr' st' => ∀ g' a' w' c, FR g' N fr' a' → R g' v c → Inv base g' st'.abs w' → Ext base g s w g' st'.abs w' → Q (.panic [{ v := c, recovered := false }]) a' w'
  | .fail _ => False

theorem OrPost.trans {base : Nat} {g g1 : Gh} {s s1 : SS} {w w1 : World} {N : Nat} {Q : Exit → Act → World → Prop} (hE : Ext base g s w g1 s1 w1) : ∀ (r : OR), OrPost base g s w N Q r → OrPost base g1 s1 w1 N Q r
  | .ok _ _, h => fun g' a' w' h1 h2 h3 => h g' a' w' h1 h2 (hE.trans h3)
  | .panic _ _ _, h => fun g' a' w' c h1 h2 h3 h4 => h g' a' w' c h1 h2 h3 (hE.trans h4)
  | .fail _, h => h

theorem xOps_wp {P : Program} {base : Nat} {ih : CallF} (hih : CallOk P base ih) {ops : Array Oper} {N : Nat} (hd : ∀ o ∈ ops.toList, dstOk N o = true) {Q : Exit → Act → World → Prop} :
    ∀ (l : List Oper) (is : List Nat), is.map (fun i => ops[i]?) = l.map some → (∀ o ∈ l, o ∈ ops.toList) → ∀ {g : Gh} {st : St} {w : World} {fr : Fr} {a : Act}, Inv base g st.abs w → FR g N fr a →
      OrPost base g st.abs w N Q (xOps P ih ops l fr st) → wpOps P ops Q is a w
  | [], is, hl, _, g, st, w, fr, a, hi, hf, hp => by
    have : is = [] := by simpa using hl
    subst this
    exact hp g a w hf hi (Ext.refl _ _ _ _)
  | o :: r, is, hl, hm, g, st, w, fr, a, hi, hf, hp => by
    cases is with
    | nil => simp at hl
    | cons i is =>
      simp only [List.map_cons, List.cons.injEq] at hl
      obtain ⟨hio, hl⟩ := hl
      have hdo := hd o (hm o (by simp))
      have rec_ := fun {g st w fr a} => @xOps_wp P base ih hih ops N hd Q r is hl (fun o ho => hm o (by simp [ho])) g st w fr a
      simp only [wpOps, hio, vwanted_eq hf]
      unfold xOps at hp
      split at hp
      · rename_i hw
        simp only [hw, if_true]
        left
        refine vop_wp hih hi hf o ?_
        split at hp
        · rename_i v st' hv
          rw [hv]
          intro g' c w' q1 q2 q3
          exact rec_ q2 ((hf.mono q3.le).to hdo q1) (hp.trans q3)
        · rename_i v st' hv
          rw [hv]
          intro g' c w' q1 q2 q3
          exact hp g' a w' c (hf.mono q3.le) q1 q2 q3
        · exact hp.elim
      · rename_i hw
        simp only [hw, Bool.false_eq_true, if_false]
        exact rec_ hi (hf.to hdo (R.undef g)) hp

end Go.Vm
