/- Code: what the evaluator Jod holds of the model, whatever the tape. (Regions that draw: by hypothesis.) -/
import Derived.Test.YtlmmgpmioaecnaaGreatDoorVmCode
namespace Go.Vm
open Go Go.RowKit
section
variable {P : Program} {b : Frame} {a : Act} {k : List Item} {cs : List Frame} {w : World} {Q : Exit → Act → World → Prop} {rd : Option Nat}
theorem QL {c : Code} : step P (lone (b.atR a (.code (.scope c) :: k)) cs w) = .next (lone (b.atR a (.code c :: .inScope c :: k)) cs w) :=
 step_lone_go (by simp [stepG, stepG.exec, Frame.atR])
theorem Jdq {c : Code} : step P (lone (b.atR a (.inScope c :: k)) cs w) = .next (lone (b.atR a k) cs w) :=
 step_lone_go (by simp [stepG, stepG.exec, Frame.atR])
theorem JhZ [Memo] {fr : Frame} {cs : List Frame} {w : World} (ha : fr.about P w = none) : (lone fr cs w).fenced P (Fn rd) :=
 fenced_calm (n := 0) (F := Fn rd) trivial (Jkh rd _) ha
theorem Ja8 (id : Nat) (c : Code) (k : List Item) : exitTo id (.inScope c :: k) = exitTo id k := by simp [exitTo]
theorem Jdn [Memo] {c : Code} (h : c.wpIn (Fn rd) 0 P (Exit.noGoto Q) a w) : (Code.scope c).wpIn (Fn rd) 0 P Q a w := by
 intro b k cs hro hb hr
 have h0 : (lone (b.atR a (.code (.scope c) :: k)) cs w).fenced P (Fn rd) := JhZ rfl
 obtain ⟨e, a₁, w₁, hq, harr⟩ := h b (.inScope c :: k) cs hro hb hr
 cases e with
 | normal => exact ⟨.normal, a₁, w₁, hq, .head h0 QL (StepsIn.trans harr (.one (JhZ rfl) Jdq))⟩
 | exit id => exact ⟨.exit id, a₁, w₁, hq, fun k' hk => .head h0 QL (harr.1 k' (by rw [Ja8]; exact hk)), fun hr' hk => let ⟨k₁, h1, h2⟩ := harr.2 hr' (by rw [Ja8]; exact hk); ⟨k₁, h1, .head h0 QL h2⟩⟩
 | goto l => exact hq.elim
 | ret => exact ⟨_, a₁, w₁, hq, .of_steps (.one h0 QL) harr⟩
 | panic ch => exact ⟨_, a₁, w₁, hq, .of_steps (.one h0 QL) harr⟩
 | outgrown => exact ⟨_, a₁, w₁, hq, .of_steps (.one h0 QL) harr⟩
end
def JfB (P : Program) (rd : Option Nat) (c : Code) (Q : Exit → Act → World → Prop) (a : Act) (w : World) : Prop :=
 ∀ (b : Frame) (k : List Item) (cs : List Frame), b.roundOf = rd → ∃ e a' w', Q e a' w' ∧ ArrivesIn (Machine.fenced P (Fn rd)) P (lone (b.atR a (.code c :: .inLoop c :: k)) cs w) b k cs e a' w'
theorem JiZ [Memo] {P : Program} {rd : Option Nat} {c : Code} {Q : Exit → Act → World → Prop} {a : Act} {w : World} (h : JfB P rd c Q a w) : (Code.loop c).wpIn (Fn rd) 0 P Q a w := by
 intro b k cs hro hb hr
 obtain ⟨e, a', w', hq, harr⟩ := h b k cs hro
 exact ⟨e, a', w', hq, .of_steps (.one (JhZ rfl) stepR_loop) harr⟩
theorem JkY [Memo] {P : Program} {rd : Option Nat} {c : Code} {Q : Exit → Act → World → Prop} {a : Act} {w : World} (h : c.wpIn (Fn rd) 0 P (Exit.then (JfB P rd c Q) Q) a w) : JfB P rd c Q a w := by
 intro b k cs hro
 obtain ⟨e, a₁, w₁, hq, harr⟩ := h b (.inLoop c :: k) cs hro trivial (Jkh rd _)
 cases e with
 | normal =>
  obtain ⟨e₂, a₂, w₂, hq₂, harr₂⟩ := hq b k cs hro
  exact ⟨e₂, a₂, w₂, hq₂, .of_steps (StepsIn.trans harr (.one (JhZ rfl) stepR_inLoop)) harr₂⟩
 | exit id => exact ⟨_, a₁, w₁, hq, .pass (x := .inLoop c) rfl (fun _ _ => .inl (by simp)) harr⟩
 | goto l => exact ⟨_, a₁, w₁, hq, .pass (x := .inLoop c) rfl (fun _ _ => .inl (by simp)) harr⟩
 | ret => exact ⟨_, a₁, w₁, hq, .pass (x := .inLoop c) rfl (fun _ _ => .inl (by simp)) harr⟩
 | panic ch => exact ⟨_, a₁, w₁, hq, .pass (x := .inLoop c) rfl (fun _ _ => .inl (by simp)) harr⟩
 | outgrown => exact ⟨_, a₁, w₁, hq, .pass (x := .inLoop c) rfl (fun _ _ => .inl (by simp)) harr⟩
def EPost [Memo] (base : Nat) (g : Gh) (s : SS) (w : World) (N : Nat) (Q : Exit → Act → World → Prop) (fr' : Fr) (st' : St) : AE → Prop
 | .normal => ∀ g' a' w', FR g' N fr' a' → Inv base g' st'.abs w' → Ext base g s w g' st'.abs w' → Q .normal a' w'
 | .exit id => ∀ g' a' w', FR g' N fr' a' → Inv base g' st'.abs w' → Ext base g s w g' st'.abs w' → Q (.exit id) a' w'
 | .ret => ∀ g' a' w', FR g' N fr' a' → Inv base g' st'.abs w' → Ext base g s w g' st'.abs w' → Q .ret a' w'
 | .panic v => ∀ g' a' w' c, FR g' N fr' a' → R g' v c → Inv base g' st'.abs w' → Ext base g s w g' st'.abs w' → Q (.panic [{ v := c, recovered := false }]) a' w'
theorem EPost.trans [Memo] {base : Nat} {g g1 : Gh} {s s1 : SS} {w w1 : World} {N : Nat} {Q : Exit → Act → World → Prop} {fr' : Fr} {st' : St} (hE : Ext base g s w g1 s1 w1) : ∀ (e : AE), EPost base g s w N Q fr' st' e → EPost base g1 s1 w1 N Q fr' st' e
 | .normal, h => fun g' a' w' h1 h2 h3 => h g' a' w' h1 h2 (hE.trans h3)
 | .exit _, h => fun g' a' w' h1 h2 h3 => h g' a' w' h1 h2 (hE.trans h3)
 | .ret, h => fun g' a' w' h1 h2 h3 => h g' a' w' h1 h2 (hE.trans h3)
 | .panic _, h => fun g' a' w' c h1 h2 h3 h4 => h g' a' w' c h1 h2 h3 (hE.trans h4)
def JcU [Memo] (P : Program) (base : Nat) (n : Nat) : Prop :=
 ∀ (rd : Option Nat) (c : Code) (fr : Fr) (st : St) (e : AE) (fr' : Fr) (st' : St), X P n (.code rd c fr) st = .code e fr' st' → ∀ (N : Nat) (g : Gh) (a : Act) (w : World) (Q : Exit → Act → World → Prop) (brd : Option Nat),
  RdR g rd brd → JV N c = true → FR g N fr a → Inv base g st.abs w → EPost base g st.abs w N Q fr' st' e → c.wpIn (Fn brd) 0 P Q a w
def Ji0 [Memo] (P : Program) (base : Nat) (n : Nat) : Prop :=
 ∀ (rd : Option Nat) (b : Code) (fr : Fr) (st : St) (e : AE) (fr' : Fr) (st' : St), X P n (.code rd (.loop b) fr) st = .code e fr' st' → ∀ (N : Nat) (g : Gh) (a : Act) (w : World) (Q : Exit → Act → World → Prop) (brd : Option Nat),
  RdR g rd brd → JV N b = true → FR g N fr a → Inv base g st.abs w → EPost base g st.abs w N Q fr' st' e → JfB P brd b Q a w
def Ji1 [Memo] (P : Program) (base : Nat) : Prop :=
 ∀ (ih : CallF), JbR P base ih → ∀ (id : Nat) (ops : Array Oper) (b l : List Nat) (N : Nat) (g : Gh) (fr : Fr) (st : St) (a : Act) (w : World) (d : Drw), Ja7 P ops b l = true →
  J9 P ih ops b st.ctr l { fr := fr, st := { st with ctr := st.ctr + ops.size }, snaps := [(ops.size, { st with ctr := st.ctr + ops.size })] } = some d →
  (∀ o ∈ ops.toList, Jck N o = true) → FR g N fr a → Inv base g st.abs w → ∀ (Q : Exit → Act → World → Prop) (rd : Option Nat),
   (∀ g' a' w', FR g' N d.fr a' → Inv base g' d.st.abs w' → Ext base g st.abs w g' d.st.abs w' → Q .normal a' w') → (Code.region id ops true).wpIn (Fn rd) 0 P Q a w
theorem JgC (ops : Array Oper) : (List.range ops.size).map (fun i => ops[i]?) = ops.toList.map some := by
 apply List.ext_getElem?
 intro i
 simp only [List.getElem?_map]
 by_cases h : i < ops.size
 ·simp [h]
 ·have h1 : (List.range ops.size)[i]? = none := by simp; omega
  have h2 : ops.toList[i]? = none := by simp; omega
  rw [h1, h2]; rfl
theorem JfC [Memo] {P : Program} {base n : Nat} (hc : JcU P base n) (hl : Ji0 P base n)
  {rd : Option Nat} {b : Code} {fr : Fr} {st : St} {e : AE} {fr' : Fr} {st' : St} (hx : (match X P n (.code rd b fr) st with
   | .code .normal fr' st' => X P n (.code rd (.loop b) fr') st'
   | r => r) = .code e fr' st') {N : Nat} {g : Gh} {a : Act} {w : World} {Q : Exit → Act → World → Prop} {brd : Option Nat} (hrd : RdR g rd brd)
  (hs : JV N b = true) (hf : FR g N fr a) (hi : Inv base g st.abs w) (hp : EPost base g st.abs w N Q fr' st' e) : JfB P brd b Q a w := by
 refine JkY ?_
 cases hx1 : X P n (.code rd b fr) st with
 | code e1 fr1 st1 =>
  rw [hx1] at hx
  refine hc rd b fr st e1 fr1 st1 hx1 N g a w _ brd hrd hs hf hi ?_
  cases e1 with
  | normal =>
   intro g1 a1 w1 f1 i1 x1
   exact hl rd b fr1 st1 e fr' st' hx N g1 a1 w1 Q brd (hrd.mono x1.le) hs f1 i1 (hp.trans x1)
  | exit id =>
   simp only [Res.code.injEq] at hx
   obtain ⟨rfl, rfl, rfl⟩ := hx
   exact hp
  | ret =>
   simp only [Res.code.injEq] at hx
   obtain ⟨rfl, rfl, rfl⟩ := hx
   exact hp
  | panic v =>
   simp only [Res.code.injEq] at hx
   obtain ⟨rfl, rfl, rfl⟩ := hx
   exact hp
 | _ => rw [hx1] at hx; simp at hx
theorem Jh0 {id : Nat} {fr fr' : Fr} {st st' : St} {e : AE} (h : JiY id fr st = .code e fr' st') :
  fr' = fr ∧ ∃ s pend t ps a b, st.box.get id = some (.loop s pend t ps a b) ∧ s ≠ .busy ∧ st' = st.put id (.loop .exhausted pend t ps a b) ∧
   ((pend = none ∧ e = .normal) ∨ (pend = some .ret ∧ e = .ret) ∨ ∃ x, pend = some (.exit x) ∧ e = .exit x) := by
 unfold JiY at h
 split at h
 rotate_left
 ·simp at h
 rename_i s pend t ps a b hb
 split at h
 ·simp at h
 ·rename_i hs
  simp only at h
  split at h
  ·simp only [Res.code.injEq] at h
   obtain ⟨rfl, rfl, rfl⟩ := h
   exact ⟨rfl, s, none, t, ps, a, b, hb, hs, rfl, .inl ⟨rfl, rfl⟩⟩
  ·simp only [Res.code.injEq] at h
   obtain ⟨rfl, rfl, rfl⟩ := h
   exact ⟨rfl, s, _, t, ps, a, b, hb, hs, rfl, .inr (.inl ⟨rfl, rfl⟩)⟩
  ·rename_i x
   simp only [Res.code.injEq] at h
   obtain ⟨rfl, rfl, rfl⟩ := h
   exact ⟨rfl, s, _, t, ps, a, b, hb, hs, rfl, .inr (.inr ⟨x, rfl, rfl⟩)⟩
  ·simp at h
theorem Inv.loop {base : Nat} {g : Gh} {st : St} {w : World} (hi : Inv base g st.abs w) {id : Nat} {s : LoopState} {pend : Option Code} {t : Tr V} {ps : List Tmp} {x y : Code} (h : st.box.get id = some (.loop s pend t ps x y)) {b o bs : Nat} (hb : g.box id = some (b, o, bs)) :
  ∃ m N, w.heap[b]? = some (.loop m) ∧ m.state = s ∧ m.pending = pend ∧ m.params.toList = ps ∧ m.assign = x ∧ m.body = y ∧ m.tmps.size = N ∧ (∀ k, R g (t.at k) (m.tmps.getD k Go.undef)) ∧ JV N m.assign = true ∧ JV N m.body = true ∧ (∀ p ∈ m.params.toList, p < N) := by
 obtain ⟨b', o', bs', m, h1, h2, h3⟩ := hi.box id _ h
 have e1 : (b', o', bs') = (b, o, bs) := by rw [h1] at hb; simpa using hb
 simp only [Prod.mk.injEq] at e1
 obtain ⟨rfl, rfl, rfl⟩ := e1
 cases h3 with
 | loop _ m N hN ht ha hb hp => exact ⟨m, N, h2, rfl, rfl, rfl, rfl, rfl, hN, ht, ha, hb, hp⟩
theorem Inv.putLoop {base : Nat} {g : Gh} {st : St} {w : World} (hi : Inv base g st.abs w) {id : Nat} {s : LoopState} {pend : Option Code} {t : Tr V} {ps : List Tmp} {x y : Code} (h : st.box.get id = some (.loop s pend t ps x y)) {b o bs : Nat} (hb : g.box id = some (b, o, bs))
  {m : Loop} (hm : w.heap[b]? = some (.loop m)) (s' : LoopState) (pend' : Option Code) :
  Inv base g (st.put id (.loop s' pend' t ps x y)).abs (w.putObj b (.loop { m with state := s', pending := pend' })) ∧ Ext base g st.abs w g (st.put id (.loop s' pend' t ps x y)).abs (w.putObj b (.loop { m with state := s', pending := pend' })) := by
 obtain ⟨m', N, h1, h2, h3, h4, h5, h6, hN, ht, ha, hbd, hp⟩ := hi.loop h hb
 have : m' = m := by rw [hm] at h1; simpa using h1.symm
 subst this
 subst h4 h5 h6
 exact hi.putObj h hb (BR.loop t { m' with state := s', pending := pend' } N hN ht ha hbd hp)
theorem Ji2 [Memo] {P : Program} {base : Nat} {g : Gh} {st st1 : St} {w : World} (hi : Inv base g st.abs w) {N : Nat} {fr fr1 : Fr} {a : Act} (hf : FR g N fr a) {rd brd : Option Nat} (hrd : RdR g rd brd) {ps : Array Tmp} {x y : Code} {id : Nat}
  (h : Jha rd fr st ps.toList x y = some (id, fr1, st1)) (hx : JV N x = true) (hy : JV N y = true) (hps : ∀ p ∈ ps.toList, p < N) (fn : FuncId) :
  ∃ l mark w1 g1 bs, (Instr.enterLoop fn a.tmps ps x y brd).run P w = .ok (l, mark) w1 ∧ g1.box id = some (l, 0, bs) ∧ FR g1 N fr1 { a with defers := mark ++ a.defers } ∧ Inv base g1 st1.abs w1 ∧ Ext base g st.abs w g1 st1.abs w1 := by
 have hbr : ∀ {g' : Gh}, g.le g' → ∀ (d : Nat), BR g' 0 0 (.loop .ready none fr.t ps.toList x y) (.loop { state := .ready, pending := none, fn, tmps := a.tmps, params := ps, assign := x, body := y, defers := d }) := fun hl d =>
  BR.loop fr.t { state := .ready, pending := none, fn, tmps := a.tmps, params := ps, assign := x, body := y, defers := d } N hf.size (fun k => (hf.at_ k).mono hl) hx hy hps
 unfold Jha at h
 cases hrd with
 | none =>
  simp only [Option.some.injEq, Prod.mk.injEq] at h
  obtain ⟨rfl, rfl, rfl⟩ := h
  obtain ⟨g1, i1, x1, b1⟩ := hi.newObj (x := .mark false) (m := .deferred (some [])) (bs := 0) .opened
  obtain ⟨g2, i2, x2, b2⟩ := i1.newObj (hbr x1.le w.heap.size)
  refine ⟨_, _, _, g2, 0, run_enterLoop_outer fn a.tmps ps x y, ?_, ⟨hf.size, ?_, hf.gl.mono (x1.le.trans x2.le), fun t => (hf.at_ t).mono (x1.le.trans x2.le)⟩, i2, x1.trans x2⟩
  ·have : (w.alloc (.deferred (some []))).heap.size = w.heap.size + 1 := by simp
   rw [← this]
   exact b2
  ·exact .cons _ _ _ _ (.mark _ _ _ _ (x2.le.box _ _ b1)) (hf.defers.mono (x1.le.trans x2.le))
 | some l b o bs hb =>
  simp only at h
  split at h
  ·rename_i s pend t ps' x' y' hl
   simp only [Option.some.injEq, Prod.mk.injEq] at h
   obtain ⟨rfl, rfl, rfl⟩ := h
   obtain ⟨m, N', h1, _⟩ := hi.loop hl hb
   obtain ⟨g1, i1, x1, b1⟩ := hi.newObj (hbr (Gh.le.refl g) m.defers)
   refine ⟨w.heap.size, [], _, g1, 0, ?_, b1, (hf.mono x1.le), i1, x1⟩
   unfold Instr.enterLoop
   simp only [Sem.run_bind, run_getLoop h1, Result.andThen, Sem.run_pure, run_newObj_alloc]
  ·simp at h
end Go.Vm
