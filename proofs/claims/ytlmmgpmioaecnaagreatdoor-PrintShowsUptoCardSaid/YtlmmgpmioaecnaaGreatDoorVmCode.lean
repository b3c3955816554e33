/- Rows of operations, code, calls. -/
import Derived.Test.YtlmmgpmioaecnaaGreatDoorVmDoor
import Derived.Scope
import Derived.OrdersIn
import Derived.RecoverIn
namespace Go.Vm
open Go Go.RowKit
theorem Jie {P : Program} {g : Gh} {fn : Func} {args : List V} {v : V} (h : Jal P fn args = some v) {cargs : List Value} (hr : Rs g args cargs) (w : World) :
  Extern.findNext fn = none ∧ ∃ e c, Extern.find fn = some e ∧ (e ⟨cargs⟩).run P w = .ok c w ∧ R g v c := by
 unfold Jal at h
 split at h
 ·simp at h
 ·rename_i h1
  split at h
  ·rename_i e he
   obtain ⟨c, h2, h3⟩ := Jbm h hr w
   exact ⟨h1, e, c, he, h2, h3⟩
  ·simp at h
def Fn (rd : Option Nat) : Fence := { Fence.wide with round := rd }
theorem JfS {rd : Option Nat} {n : Nat} {P : Program} {f : FuncId} {args : Array Value} {w : World} {R : Ending → World → Prop} (h : Calls P f args w R) : CallsIn (Fn rd) n P f args w R :=
 (callsIn_wide (n := n)).2 h
theorem Jkh (rd : Option Nat) (n : Nat) : (Fn rd).room n := fun _ h => by simp [Fn, Fence.wide] at h
inductive RdR (g : Gh) : Option Nat → Option Nat → Prop
 | none : RdR g none none
 | some (id b o bs : Nat) (h : g.box id = some (b, o, bs)) : RdR g (some id) (some b)
theorem RdR.mono {g g' : Gh} (hl : g.le g') {x y : Option Nat} (h : RdR g x y) : RdR g' x y := by
 cases h with
 | none => exact .none
 | some id b o bs h => exact .some _ _ _ _ (hl.box _ _ h)
def JfT (m : Loop) (args : Array Value) : Array Value := (m.params.zip args).foldl (fun tmps (t, a) => tmps.setIfInBounds t a) m.tmps
def JoF (P : Program) (g : Gh) (c : Cl) (args : Array Value) (w : World) (R : Ending → World → Prop) : Prop :=
 match c with
 | .f f => Calls P f args w R
 | .y id => ∃ b o bs m, g.box id = some (b, o, bs) ∧ w.heap[b]? = some (.loop m) ∧ args.size = m.params.size ∧ ∀ rd, RoundIn (Fn rd) 0 P b m.fn (JfT m args) m.assign m.body w R
def JbR [Memo] (P : Program) (base : Nat) (ih : CallF) : Prop :=
 ∀ gl f args st, match ih gl f args st with
  | .val v st' => ∀ g w cargs, GlR g gl → Inv base g st.abs w → Rs g args cargs →
    JoF P g f ⟨cargs⟩ w fun e w' => ∃ g' c, e = .returned c ∧ R g' v c ∧ Inv base g' st'.abs w' ∧ Ext base g st.abs w g' st'.abs w'
  | .panic v st' => ∀ g w cargs, GlR g gl → Inv base g st.abs w → Rs g args cargs →
    JoF P g f ⟨cargs⟩ w fun e w' => ∃ g' c, e = .panicked [{ v := c, recovered := false }] ∧ R g' v c ∧ Inv base g' st'.abs w' ∧ Ext base g st.abs w g' st'.abs w'
  | .fail _ => True
def Jhf (base : Nat) (g : Gh) (s : SS) (w : World) (a : Act) (dst : Option Tmp) (K : Act → World → Prop) (Q : Exit → Act → World → Prop) : ER → Prop
 | .val v st' => ∀ g' c w', R g' v c → Inv base g' st'.abs w' → Ext base g s w g' st'.abs w' → K (a.put dst c) w'
 | .panic v st' => ∀ g' c w', R g' v c → Inv base g' st'.abs w' → Ext base g s w g' st'.abs w' → Q (.panic [{ v := c, recovered := false }]) a w'
 | .fail _ => False
theorem Jlc {o : Op} (h : Jo o = false) : ∀ c, o ≠ .defer c := fun c e => by subst e; simp [Jo] at h
theorem Jms {rd : Option Nat} (ρ : Operand → Value) {o : Oper} (h : Jo o.op = false) : o.semAt (Fn rd).round ρ = execOp ρ o := Oper.semAt_eq _ _ _ (Jlc h)
theorem JaZ {rd : Option Nat} {P : Program} {o : Oper} {a : Act} {w : World} {K : Act → World → Prop} {Q : Exit → Act → World → Prop} (nd : Jo o.op = false)
  (h : o.uponIn (Fn rd) 0 P a K Q ((execOp a.eval o).run P w)) : o.wpIn (Fn rd) 0 P a w K Q :=
 ⟨fun _ _ => trivial, by rw [Jms _ nd]; exact h⟩
theorem Ja1 {rd : Option Nat} {P : Program} {base : Nat} {g : Gh} {s : SS} {w : World} {o : Oper} {a : Act} {v : V} {st' : St} {K : Act → World → Prop} {Q : Exit → Act → World → Prop} (nd : Jo o.op = false)
  (h : Gives P base g s w ((execOp a.eval o).run P w) v st'.abs) (hp : Jhf base g s w a o.dst K Q (.val v st')) : o.wpIn (Fn rd) 0 P a w K Q := by
 obtain ⟨g', c, w', h1, h2, h3, h4⟩ := h
 refine JaZ nd ?_
 rcases h1 with h1 | ⟨h1, rfl⟩
 ·rw [h1]; exact hp g' c w' h2 h3 h4
 ·rw [h1]; exact hp g' _ w' h2 h3 h4
theorem JeK {rd : Option Nat} {P : Program} {o : Oper} {a : Act} {w : World} {K : Act → World → Prop} {Q : Exit → Act → World → Prop} {f : FuncId} {args : Array Value} (nd : Jo o.op = false)
  (h : (execOp a.eval o).run P w = .ok (.enter f args) w) {R : Ending → World → Prop} (hc : Calls P f args w R)
  (hr : ∀ e w', R e w' → (∃ c, e = .returned c ∧ K (a.put o.dst c) w') ∨ (∃ ch, e = .panicked ch ∧ Q (.panic ch) a w')) : o.wpIn (Fn rd) 0 P a w K Q := by
 refine JaZ nd ?_
 rw [h, Oper.uponIn_enter]
 refine ⟨fun h => by simp [Fn, Fence.wide] at h, JfS (hc.mono fun e w' he => ?_)⟩
 rcases hr e w' he with ⟨c, rfl, h⟩ | ⟨ch, rfl, h⟩
 ·exact h
 ·exact h
theorem JeL {rd : Option Nat} {P : Program} {o : Oper} {a : Act} {w : World} {K : Act → World → Prop} {Q : Exit → Act → World → Prop} {b : Nat} {m : Loop} {args : Array Value} (nd : Jo o.op = false)
  (h : (execOp a.eval o).run P w = .ok (.round b m.fn (JfT m args) m.assign m.body) w) {R : Ending → World → Prop} (hc : RoundIn (Fn rd) 0 P b m.fn (JfT m args) m.assign m.body w R)
  (hr : ∀ e w', R e w' → (∃ c, e = .returned c ∧ K (a.put o.dst c) w') ∨ (∃ ch, e = .panicked ch ∧ Q (.panic ch) a w')) : o.wpIn (Fn rd) 0 P a w K Q := by
 refine JaZ nd ?_
 rw [h, Oper.uponIn_round]
 refine ⟨fun h => by simp [Fn, Fence.wide] at h, hc.mono fun e w' he => ?_⟩
 rcases hr e w' he with ⟨c, rfl, h⟩ | ⟨ch, rfl, h⟩
 ·exact h
 ·exact h
theorem JdG [Memo] {P : Program} {g : Gh} {N : Nat} {fr : Fr} {a : Act} (hf : FR g N fr a) (o : Oper) {cs : List V} {e : TypeId} {n : Option (Nat × Nat)} (h : Jv P fr o.op = some (cs, e, n)) (w : World) :
  ∃ l c, (execOp a.eval o).run P w = .ok (.value c) (w.alloc (.cells ⟨l⟩ e)) ∧ Rs g cs l ∧ ∀ g' id bs, g'.box id = some (w.heap.size, 0, bs) → R g' (JM id n) c := by
 obtain ⟨dst, op, type, pos, after, guard⟩ := o
 simp only at h
 have ptr : ∀ g' id bs, g'.box id = some (w.heap.size, 0, bs) → R g' (JM id none) (.pointer (some ⟨w.heap.size, 0, none⟩)) := fun g' id bs hb => .ptr id 0 _ 0 bs hb
 unfold Jv at h
 split at h
 ·rename_i t
  split at h
  ·rename_i z hz
   simp only [Option.some.injEq, Prod.mk.injEq] at h
   obtain ⟨rfl, rfl, rfl⟩ := h
   obtain ⟨zc, h1, h2⟩ := JaF hz g
   refine ⟨zc.cells.toList, _, ?_, h2.cells, ptr⟩
   simp [execOp, Instr.alloc, h1, newVar, newRow]
  ·simp at h
 ·rename_i t x
  split at h
  ·rename_i v hv
   simp only [Option.some.injEq, Prod.mk.injEq] at h
   obtain ⟨rfl, rfl, rfl⟩ := h
   have hr := Qh hf hv
   refine ⟨(a.eval x).cells.toList, _, ?_, hr.cells, ptr⟩
   simp [execOp, Instr.box, newVar, newRow]
  ·simp at h
 ·rename_i t len parts
  split at h
  ·rename_i ps hps
   split at h
   ·rename_i cs' e' z hb
    simp only [Option.some.injEq, Prod.mk.injEq] at h
    obtain ⟨rfl, rfl, rfl⟩ := h
    have h1 := Jez hf _ hps
    have e : (parts.map fun (i, x) => (i, a.eval x)) = ⟨parts.toList.map fun (i, x) => (i, a.eval x)⟩ := by apply Array.ext'; simp
    obtain ⟨l, h2, h3⟩ := JeX (w := w) hb h1
    refine ⟨l, _, ?_, h3, fun g' id bs hbx => .ms id 0 len z (some len) _ 0 bs 0 len hbx (Nat.le_refl _) (.inr rfl) rfl⟩
    simp only [execOp, Sem.run_bind]
    rw [e, h2]
    rfl
   ·simp at h
  ·simp at h
 ·simp at h
theorem JaP {P : Program} {base : Nat} {g : Gh} {st st' : St} {w : World} {x : Sem Value} {v : V} (h : Jgk P base g st w (x.run P w) v st') :
  Gives P base g st.abs w ((do pure (.value (← x)) : Sem Next).run P w) v st'.abs := by
 obtain ⟨g', c, w', h1, h2, h3, h4⟩ := h
 exact ⟨g', c, w', .inl (by rw [Sem.run_bind, h1]; rfl), h2, h3, h4⟩
theorem Jif [Memo] {P : Program} {base : Nat} {g : Gh} {st st' : St} {w : World} (hi : Inv base g st.abs w) {N : Nat} {fr : Fr} {a : Act} (hf : FR g N fr a) (o : Oper) {v : V} (h : Qe P fr st o.op = some (v, st')) :
  Gives P base g st.abs w ((execOp a.eval o).run P w) v st'.abs := by
 obtain ⟨dst, op, type, pos, after, guard⟩ := o
 simp only at h
 unfold Qe at h
 split at h
 ·
  split at h
  ·rename_i u v hu hv
   split at h
   ·rename_i st1 hst
    simp only [Option.some.injEq, Prod.mk.injEq] at h
    obtain ⟨rfl, rfl⟩ := h
    obtain ⟨w', h1, h2, h3⟩ := Jjz hi hst (Qh hf hu) (Qh hf hv)
    refine ⟨g, Go.undef, w', .inr ⟨?_, rfl⟩, R.undef g, h2, h3⟩
    simp only [execOp, Sem.run_bind, h1]
    rfl
   ·simp at h
  ·simp at h
 ·
  split at h
  ·rename_i l' c' hl hc
   exact JaP (Jlx hi h (Qh hf hl) (Qh hf hc))
  ·simp at h
 ·
  rename_i t
  simp only [Option.some.injEq] at h
  have := Jhv (P := P) (w := w) hi t
  rw [h] at this
  exact JaP this
 ·
  split at h
  ·rename_i m k x hm hk hx
   split at h
   ·rename_i st1 hst
    simp only [Option.some.injEq, Prod.mk.injEq] at h
    obtain ⟨rfl, rfl⟩ := h
    obtain ⟨w', h1, h2, h3⟩ := Jc8 hi hst (Qh hf hm) (Qh hf hk) (Qh hf hx)
    refine ⟨g, Go.undef, w', .inr ⟨?_, rfl⟩, R.undef g, h2, h3⟩
    simp only [execOp, Sem.run_bind, h1]
    rfl
   ·simp at h
  ·simp at h
 ·
  split at h
  ·rename_i m k x hm hk hx
   split at h
   ·rename_i st1 hst
    simp only [Option.some.injEq, Prod.mk.injEq] at h
    obtain ⟨rfl, rfl⟩ := h
    obtain ⟨w', h1, h2, h3⟩ := Jc8 hi hst (Qh hf hm) (Qh hf hk) (Qh hf hx)
    refine ⟨g, Go.undef, w', .inr ⟨?_, rfl⟩, R.undef g, h2, h3⟩
    simp only [execOp, Sem.run_bind, h1]
    rfl
   ·simp at h
  ·simp at h
 ·
  split at h
  ·rename_i x hx
   exact JaP (JjK hi h (Qh hf hx))
  ·simp at h
 ·
  split at h
  ·rename_i x hx
   exact JaP (Jlz hi h (Qh hf hx) _)
  ·simp at h
 ·
  split at h
  ·rename_i x hx
   exact JaP (Jgl hi h (Qh hf hx))
  ·simp at h
 ·
  rename_i b ts
  split at h
  ·rename_i x y t u hb ht
   have eb : b = #[x, y] := by apply Array.ext'; simpa using hb
   have et : ts = #[t, u] := by apply Array.ext'; simpa using ht
   subst eb et
   split at h
   ·rename_i e s' x' hu hs hx
    obtain ⟨g', c, w', h1, h2, h3, h4⟩ := JeE (ty := type) hi h (.inl ⟨e, hu⟩) (Qh hf hs) (Qh hf hx)
    refine ⟨g', c, w', .inl ?_, h2, h3, h4⟩
    simp [execOp, resolve, invoke, builtin, h1]
   ·rename_i s' x' hu hs hx
    obtain ⟨g', c, w', h1, h2, h3, h4⟩ := JeE (ty := type) hi h (.inr hu) (Qh hf hs) (Qh hf hx)
    refine ⟨g', c, w', .inl ?_, h2, h3, h4⟩
    simp [execOp, resolve, invoke, builtin, h1]
   ·rename_i k s' x' hu hs hx
    obtain ⟨g', c, w', h1, h2, h3, h4⟩ := Jg0 (ty := type) hi h hu (Qh hf hs) (Qh hf hx)
    refine ⟨g', c, w', .inl ?_, h2, h3, h4⟩
    simp [execOp, resolve, invoke, builtin, h1]
   ·simp at h
  ·simp at h
 ·
  rename_i b ts
  split at h
  ·rename_i x y t u hb ht
   have eb : b = #[x, y] := by apply Array.ext'; simpa using hb
   have et : ts = #[t, u] := by apply Array.ext'; simpa using ht
   subst eb et
   split at h
   ·rename_i d' x' hd hx
    obtain ⟨g', c, w', h1, h2, h3, h4⟩ := Jhx (it := u) (ty := type) hi h (Qh hf hd) (Qh hf hx)
    refine ⟨g', c, w', .inl ?_, h2, h3, h4⟩
    simp [execOp, resolve, invoke, builtin, h1]
   ·simp at h
  ·simp at h
 ·
  rename_i b ts
  split at h
  ·rename_i x y t u hb ht
   have eb : b = #[x, y] := by apply Array.ext'; simpa using hb
   have et : ts = #[t, u] := by apply Array.ext'; simpa using ht
   subst eb et
   split at h
   ·rename_i d' x' hd hx
    obtain ⟨g', c, w', h1, h2, h3, h4⟩ := Jly hi h (Qh hf hd) (Qh hf hx) #[t, u] rfl type
    refine ⟨g', c, w', .inl ?_, h2, h3, h4⟩
    simp [execOp, resolve, invoke, builtin, h1]
   ·simp at h
  ·simp at h
 ·simp at h
theorem Jig [Memo] {P : Program} {base : Nat} {ih : CallF} (hih : JbR P base ih) {g : Gh} {st : St} {w : World} (hi : Inv base g st.abs w) {gl : Gl} (hgl : GlR g gl) {o : Oper} (nd : Jo o.op = false) {a : Act} {f : Nat} {args : List V} {cargs : List Value} (hargs : Rs g args cargs)
  (hres : (execOp a.eval o).run P w = (callFunc f ⟨cargs⟩).run P w) {K : Act → World → Prop} {Q : Exit → Act → World → Prop} (hp : Jhf base g st.abs w a o.dst K Q (JaA P ih gl f args st)) {rd : Option Nat} : o.wpIn (Fn rd) 0 P a w K Q := by
 unfold JaA at hp
 split at hp
 ·exact hp.elim
 ·rename_i fn hfn
  split at hp
  ·exact hp.elim
  ·rename_i hname
   have hname' : ¬ fn.name = "runtime.NumGoroutine" := by simpa using hname
   split at hp
   ·rename_i bd hbd
    have henter : (callFunc f ⟨cargs⟩).run P w = .ok (.enter f ⟨cargs⟩) w := by
     simp [callFunc, hfn, hname', hbd]
    have hc := hih gl (.f f) args st
    split at hc
    ·rename_i v st' hv
     rw [hv] at hp
     refine JeK nd (hres.trans henter) (hc g w _ hgl hi hargs) ?_
     rintro e w' ⟨g', c, rfl, q1, q2, q3⟩
     exact .inl ⟨c, rfl, hp g' c w' q1 q2 q3⟩
    ·rename_i v st' hv
     rw [hv] at hp
     refine JeK nd (hres.trans henter) (hc g w _ hgl hi hargs) ?_
     rintro e w' ⟨g', c, rfl, q1, q2, q3⟩
     exact .inr ⟨_, rfl, hp g' c w' q1 q2 q3⟩
    ·rename_i why hv
     rw [hv] at hp
     exact hp.elim
   ·rename_i hbd
    split at hp
    ·rename_i v hv
     obtain ⟨q1, e', c, q2, q3, q4⟩ := Jie hv hargs w
     refine Ja1 (v := v) (st' := st) nd (.same hi ?_ q4) hp
     rw [hres]
     simp [callFunc, hfn, hname', hbd, q1, q2, q3]
    ·split at hp
     rotate_left
     ·exact hp.elim
     rename_i hnx v st' hnn hv
     obtain ⟨e', q1, g', c, w', q2, q3, q4, q5⟩ := Jlm hi hv hargs
     refine Ja1 (v := v) (st' := st') nd ⟨g', c, w', .inl ?_, q3, q4, q5⟩ hp
     rw [hres]
     simp [callFunc, hfn, hname', hbd, q1, hnn, q2]
theorem Jih {P : Program} {t : TypeId} {name : String} {f : Nat} (h : Jfb P t name = some f) (n : Nat) (c : Value) (w : World) : (Go.method (n + 1) t c name).run P w = .ok (f, c) w := by
 unfold Jfb at h
 split at h
 rotate_left
 ·simp at h
 rename_i i hi
 split at h
 rotate_left
 ·simp at h
 rename_i m hm
 split at h
 ·rename_i f' e hp hfn hu
  simp only [Option.some.injEq] at h; subst h
  simp [Go.method, typeInfo, hi, hm, hp, hfn, follow, receiverAt, run_underlying hu, Place.get]
 ·simp at h
 ·rename_i f' d hd hp hfn hu
  simp only [Option.some.injEq] at h; subst h
  simp only [Go.method, typeInfo, Sem.run_bind, program, Sem.run, Result.andThen, hi, receiverAt]
  cases d <;> first | exact (hd _ rfl).elim | simp [Place.get, hm, hp, hfn, follow, run_underlying hu]
 ·simp at h
theorem Jki [Memo] {P : Program} {base : Nat} {ih : CallF} (hih : JbR P base ih) {g : Gh} {st : St} {w : World} (hi : Inv base g st.abs w) {N : Nat} {fr : Fr} {a : Act} (hf : FR g N fr a) (o : Oper)
    {K : Act → World → Prop} {Q : Exit → Act → World → Prop} (nd : Jo o.op = false) (hp : Jhf base g st.abs w a o.dst K Q (J6 P ih fr st o.op)) {rd : Option Nat} : o.wpIn (Fn rd) 0 P a w K Q := by
  obtain ⟨dst, op, type, pos, after, guard⟩ := o
  simp only at hp nd
  unfold J6 at hp
  split at hp
  ·
    rename_i x
    split at hp
    · rename_i t v hx
      have hr := Qh hf hx
      refine JaZ rfl ?_
      have : (execOp a.eval { dst, op := .panic x, type, pos, after, guard }).run P w = .halt (.panic (a.eval x)) w := by
        simp only [execOp, Sem.run_bind]
        cases hcc : a.eval x <;> rw [hcc] at hr <;> cases hr
        simp [Instr.panic]
      rw [this]
      exact hp g _ w hr hi (Ext.refl _ _ _ _)
    · exact hp.elim
  ·
    rename_i fo b ts
    split at hp
    · rename_i f first captured vs hfo hvs
      have hrf := Qh hf hfo
      have hra := Jd8 hf hvs
      cases hcc : a.eval fo <;> rw [hcc] at hrf <;> cases hrf
      rename_i l1 l2 h1 h2
      have hargs := (h1.app hra).app h2
      have e : (b.map a.eval) = ⟨b.toList.map a.eval⟩ := by apply Array.ext'; simp
      have hres : (execOp a.eval { dst, op := .call { callee := .value fo, args := b, argTypes := ts }, type, pos, after, guard }).run P w = (callFunc f ⟨l1 ++ b.toList.map a.eval ++ l2⟩).run P w := by
        simp only [execOp, resolve, hcc, Deferred.ofValue, Sem.run_bind, Sem.run_pure, Result.andThen_ok, invoke, e]
        congr 2
        apply Array.ext'; simp
      exact Jig hih hi hf.gl rfl hargs hres hp
    · rename_i id vs hfo hvs
      have hrf := Qh hf hfo
      have hra := Jd8 hf hvs
      generalize hcc : a.eval fo = cf at hrf
      cases hrf with
      | yld _ bb o bs hbb =>
      have e : (b.map a.eval) = ⟨b.toList.map a.eval⟩ := by apply Array.ext'; simp
      have hc := hih fr.gl (.y id) vs st
      have hres : ∀ m, w.heap[bb]? = some (.loop m) → b.size = m.params.size → (execOp a.eval { dst, op := .call { callee := .value fo, args := b, argTypes := ts }, type, pos, after, guard }).run P w =
          .ok (.round bb m.fn (JfT m ⟨b.toList.map a.eval⟩) m.assign m.body) w := by
        intro m hm hsz
        simp only [execOp, resolve, hcc, Deferred.ofValue, Sem.run_bind, Sem.run_pure, Result.andThen_ok, invoke, e]
        have := run_yield (P := P) (args := ⟨b.toList.map a.eval⟩) hm (by simpa using hsz)
        simpa [JfT] using this
      split at hc
      · rename_i v st' hv
        rw [hv] at hp
        obtain ⟨b', o', bs', m, q1, q2, q3, q4⟩ := hc g w _ hf.gl hi hra
        have e1 : (b', o', bs') = (bb, o, bs) := by rw [q1] at hbb; simpa using hbb
        simp only [Prod.mk.injEq] at e1
        obtain ⟨rfl, rfl, rfl⟩ := e1
        refine JeL rfl (hres m q2 (by simpa using q3)) (q4 rd) ?_
        rintro e w' ⟨g', c, rfl, q1, q2, q3⟩
        exact .inl ⟨c, rfl, hp g' c w' q1 q2 q3⟩
      · rename_i v st' hv
        rw [hv] at hp
        obtain ⟨b', o', bs', m, q1, q2, q3, q4⟩ := hc g w _ hf.gl hi hra
        have e1 : (b', o', bs') = (bb, o, bs) := by rw [q1] at hbb; simpa using hbb
        simp only [Prod.mk.injEq] at e1
        obtain ⟨rfl, rfl, rfl⟩ := e1
        refine JeL rfl (hres m q2 (by simpa using q3)) (q4 rd) ?_
        rintro e w' ⟨g', c, rfl, q1, q2, q3⟩
        exact .inr ⟨_, rfl, hp g' c w' q1 q2 q3⟩
      · rename_i why hv
        rw [hv] at hp
        exact hp.elim
    · exact hp.elim
  ·
    rename_i recv name b ts
    split at hp
    rotate_left
    · exact hp.elim
    rename_i t v vs hrecv hvs
    split at hp
    rotate_left
    · exact hp.elim
    rename_i f hm
    have hrr := Qh hf hrecv
    have hra := Jd8 hf hvs
    generalize hcc : a.eval recv = cr at hrr
    cases hrr with
    | iface _ _ y hy =>
    have e : (b.map a.eval) = ⟨b.toList.map a.eval⟩ := by apply Array.ext'; simp
    have hdep : ∃ k, P.types.size + Made.depth = k + 1 := ⟨P.types.size + (Made.depth - 1), by have : 0 < Made.depth := by decide
                                                                                               omega⟩
    obtain ⟨k, hk⟩ := hdep
    have hres : (execOp a.eval { dst, op := .call { callee := .invoke recv name, args := b, argTypes := ts }, type, pos, after, guard }).run P w = (callFunc f ⟨y :: b.toList.map a.eval⟩).run P w := by
      have hmm : (Go.method (P.types.size + Made.depth) t y name).run P w = .ok (f, y) w := by rw [hk]; exact Jih hm k y w
      have hcm : ∀ args : Array Value, (callMethod (.iface t y) name args).run P w = (callFunc f (#[y] ++ args)).run P w := fun args => by
        simp only [callMethod, Sem.run_bind, program, Sem.run, Result.andThen_ok]
        simp only [Result.andThen_ok, hmm]
      have hinv : ∀ args : Array Value, (invoke (.fn (.method name) #[]) (#[.iface t y] ++ args)).run P w = (callFunc f (#[y] ++ args)).run P w := fun args => by
        have e1 : (#[Value.iface t y] ++ args)[0]? = some (.iface t y) := by
          rw [Array.getElem?_append_left (by simp)]; rfl
        have e2 : (#[Value.iface t y] ++ args).extract 1 (#[Value.iface t y] ++ args).size = args := by
          apply Array.ext'
          simp
        simp only [invoke, e1, e2]
        exact hcm args
      simp only [execOp, resolve, hcc, Sem.run_bind, Sem.run_pure, Result.andThen_ok, e]
      rw [hinv]
      congr 2
      apply Array.ext'; simp
    exact Jig hih hi hf.gl rfl (.cons _ _ _ _ hy hra) hres hp
  ·
    rename_i hn1 hn2 hn3
    split at hp
    · rename_i v st' hv
      exact Ja1 nd (Jif hi hf { dst, op, type, pos, after, guard } hv) hp
    · exact hp.elim
theorem JoG [Memo] {P : Program} {base : Nat} {ih : CallF} (hih : JbR P base ih) {g : Gh} {st : St} {w : World} (hi : Inv base g st.abs w) {N : Nat} {fr : Fr} {a : Act} (hf : FR g N fr a) (o : Oper)
  {K : Act → World → Prop} {Q : Exit → Act → World → Prop} (nd : Jo o.op = false) (hp : Jhf base g st.abs w a o.dst K Q (vop P ih fr st o.op)) {rd : Option Nat} : o.wpIn (Fn rd) 0 P a w K Q := by
 unfold vop at hp
 split at hp
 ·split at hp
  ·rename_i v hv
   exact Ja1 nd (JbJ hi hf o hv) hp
  ·exact hp.elim
 ·split at hp
  ·rename_i v hv
   exact Ja1 nd (JbJ hi hf o hv) hp
  ·exact hp.elim
 ·split at hp
  ·rename_i cs e n hcs
   split at hp
   ·obtain ⟨l, c, h1, h2, h3⟩ := JdG hf o hcs w
    obtain ⟨g', j1, j2, j3⟩ := hi.newObj (JcH h2 e)
    exact Ja1 nd ⟨g', c, _, .inl h1, h3 g' _ _ j3, j1, j2⟩ hp
   ·exact hp.elim
  ·exact hp.elim
 ·exact Jki hih hi hf o nd hp
theorem Jld [Memo] {g : Gh} {N : Nat} {fr : Fr} {a : Act} (hf : FR g N fr a) (d : Tmp) (b : Bool) : (a.tmps[d]? = some (.bool b)) ↔ Fr.at fr d = .bool b := by
 have h := hf.at_ d
 rw [Array.getD_eq_getD_getElem?] at h
 cases ht : a.tmps[d]? with
 | none =>
  rw [ht] at h
  simp only [Option.getD_none] at h
  constructor
  ·intro h; simp at h
  ·intro hv; rw [hv] at h; cases h
 | some c =>
  rw [ht] at h
  simp only [Option.getD_some] at h
  constructor
  ·intro hc
   simp only [Option.some.injEq] at hc
   subst hc
   generalize Fr.at fr d = v at h
   cases h; rfl
  ·intro hv; rw [hv] at h; cases h; rfl
theorem JdH [Memo] {g : Gh} {N : Nat} {fr : Fr} {a : Act} (hf : FR g N fr a) (ops : Array Oper) (o : Oper) : Region.wanted o (yielded ops a.tmps) = Jj ops fr o := by
  unfold Region.wanted Jj
  cases o.guard with
  | none => rfl
  | some p =>
    obtain ⟨j, want⟩ := p
    simp only [yielded]
    cases ops[j]? with
    | none => simp
    | some q =>
      simp only [Option.bind_some]
      cases q.dst with
      | none => simp
      | some d =>
        simp only [Option.bind_some]
        have hy := Jld hf d
        cases hv : Fr.at fr d with
        | bool b =>
          have := (hy b).2 hv
          rw [this]
          simp
        | _ =>
          have hno : ∀ b, a.tmps[d]? ≠ some (.bool b) := fun b h => by have := (hy b).1 h; rw [hv] at this; simp at this
          first
            | rfl
            | (simp only; rfl)
            | (simp only
               split <;> rename_i hh
               · split at hh
                 · rename_i b hb; exact absurd hb (hno b)
                 · simp at hh
               · rfl)
def OrPost [Memo] (base : Nat) (g : Gh) (s : SS) (w : World) (N : Nat) (Q : Exit → Act → World → Prop) : OR → Prop
 | .ok fr' st' => ∀ g' a' w', FR g' N fr' a' → Inv base g' st'.abs w' → Ext base g s w g' st'.abs w' → Q .normal a' w'
 | .panic v fr' st' => ∀ g' a' w' c, FR g' N fr' a' → R g' v c → Inv base g' st'.abs w' → Ext base g s w g' st'.abs w' → Q (.panic [{ v := c, recovered := false }]) a' w'
 | .fail _ => False
theorem OrPost.trans [Memo] {base : Nat} {g g1 : Gh} {s s1 : SS} {w w1 : World} {N : Nat} {Q : Exit → Act → World → Prop} (hE : Ext base g s w g1 s1 w1) : ∀ (r : OR), OrPost base g s w N Q r → OrPost base g1 s1 w1 N Q r
 | .ok _ _, h => fun g' a' w' h1 h2 h3 => h g' a' w' h1 h2 (hE.trans h3)
 | .panic _ _ _, h => fun g' a' w' c h1 h2 h3 h4 => h g' a' w' c h1 h2 h3 (hE.trans h4)
 | .fail _, h => h
theorem Jjg [Memo] {P : Program} {g : Gh} {N : Nat} {fr : Fr} {a : Act} (hf : FR g N fr a) (o : Oper) {d : Df} (h : Jcx P fr o.op = some d) (w : World) :
  ∃ x, (execOp a.eval o).run P w = .ok (.defer x) w ∧ DR g d x := by
 obtain ⟨dst, op, type, pos, after, guard⟩ := o
 simp only at h
 unfold Jcx at h
 split at h
 ·rename_i fo b ts
  split at h
  ·rename_i f first captured vs hfo hvs
   have hrf := Qh hf hfo
   have hra := Jd8 hf hvs
   split at h
   ·simp only [Option.some.injEq] at h; subst h
    cases hcc : a.eval fo <;> rw [hcc] at hrf <;> cases hrf
    rename_i l1 l2 h1 h2
    have e : (b.map a.eval) = ⟨b.toList.map a.eval⟩ := by apply Array.ext'; simp
    refine ⟨_, ?_, .call f _ ⟨l2⟩ (⟨l1⟩ ++ ⟨b.toList.map a.eval⟩) (by simpa using (h1.app hra).app h2)⟩
    simp only [execOp, resolve, hcc, Deferred.ofValue, Sem.run_bind, Sem.run_pure, Result.andThen_ok, e]
   ·simp at h
  ·simp at h
 ·simp at h
theorem Jkj [Memo] {P : Program} {base : Nat} {ih : CallF} (hih : JbR P base ih) {ops : Array Oper} {N : Nat} (hd : ∀ o ∈ ops.toList, Jck N o = true) {Q : Exit → Act → World → Prop} {rd brd : Option Nat} (hrd : rd = none → brd = none) :
  ∀ (l : List Oper) (is : List Nat), is.map (fun i => ops[i]?) = l.map some → (∀ o ∈ l, o ∈ ops.toList) → ∀ {g : Gh} {st : St} {w : World} {fr : Fr} {a : Act}, Inv base g st.abs w → FR g N fr a →
   OrPost base g st.abs w N Q (J8 P ih rd ops l fr st) → wpOpsIn (Fn brd) 0 P ops Q is a w
 | [], is, hl, _, g, st, w, fr, a, hi, hf, hp => by
  have : is = [] := by simpa using hl
  subst this
  exact hp g a w hf hi (Ext.refl _ _ _ _)
 | o :: r, is, hl, hm, g, st, w, fr, a, hi, hf, hp => by
  cases is with
  | nil => simp at hl
  | cons i is =>
   simp only [List.map_cons, List.cons.injEq] at hl
   obtain ⟨hio, hl⟩ := hl
   have hdo := hd o (hm o (by simp))
   have rec_ := fun {g st w fr a} => @Jkj _ P base ih hih ops N hd Q rd brd hrd r is hl (fun o ho => hm o (by simp [ho])) g st w fr a
   simp only [wpOpsIn, hio, JdH hf]
   unfold J8 at hp
   split at hp
   ·rename_i hw
    simp only [hw, if_true]
    split at hp
    ·rename_i nd
     refine JoG hih hi hf o nd ?_
     split at hp
     ·rename_i v st' hv
      rw [hv]
      intro g' c w' q1 q2 q3
      exact rec_ q2 ((hf.mono q3.le).to hdo q1) (hp.trans q3)
     ·rename_i v st' hv
      rw [hv]
      intro g' c w' q1 q2 q3
      exact hp g' a w' c (hf.mono q3.le) q1 q2 q3
     ·exact hp.elim
    ·rename_i nd
     split at hp
     ·rename_i d hvd
      have := hrd rfl
      subst this
      obtain ⟨x, h1, h2⟩ := Jjg hf o hvd w
      refine ⟨fun _ _ => trivial, ?_⟩
      show o.uponIn (Fn none) 0 P a _ Q ((o.semAt none a.eval).run P w)
      rw [Oper.semAt_none, h1, Oper.uponIn_defer]
      refine rec_ hi ?_ hp
      have hf' : FR g N { fr with ds := d :: fr.ds } { a with defers := x :: a.defers } := ⟨hf.size, .cons _ _ _ _ h2 hf.defers, hf.gl, hf.at_⟩
      exact hf'.to hdo (R.undef g)
     ·exact hp.elim
   ·rename_i hw
    simp only [hw, Bool.false_eq_true, if_false]
    exact ⟨fun _ _ => trivial, rec_ hi (hf.to hdo (R.undef g)) hp⟩
end Go.Vm
