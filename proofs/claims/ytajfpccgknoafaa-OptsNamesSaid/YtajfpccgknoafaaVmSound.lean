/- Code and calls: what the evaluator says holds of the model, whatever the tape. (Regions that draw: by hypothesis.) -/
import Derived.Test.YtajfpccgknoafaaVmCode
namespace Go.Vm
open Go Go.RowKit

def LoopWp (P : Program) (c : Code) (Q : Exit → Act → World → Prop) (a : Act) (w : World) : Prop :=
  ∀ (b : Frame) (k : List Item) (cs : List Frame), ∃ e a' w', Q e a' w' ∧ Arrives P (lone (b.at a (.code c :: .inLoop c :: k)) cs w) b k cs e a' w'

theorem wp_of_loop {P : Program} {c : Code} {Q : Exit → Act → World → Prop} {a : Act} {w : World} (h : LoopWp P c Q a w) : (Code.loop c).wp P Q a w := by
  intro b k cs
  obtain ⟨e, a', w', hq, harr⟩ := h b k cs
  exact ⟨e, a', w', hq, .of_steps (.one step_loop) harr⟩

theorem loop_step {P : Program} {c : Code} {Q : Exit → Act → World → Prop} {a : Act} {w : World} (h : c.wp P (Exit.then (LoopWp P c Q) Q) a w) : LoopWp P c Q a w := by
  intro b k cs
  obtain ⟨e, a₁, w₁, hq, harr⟩ := h b (.inLoop c :: k) cs
  cases e with
  | normal =>
    obtain ⟨e₂, a₂, w₂, hq₂, harr₂⟩ := hq b k cs
    exact ⟨e₂, a₂, w₂, hq₂, .of_steps (Steps.trans harr (.one step_inLoop)) harr₂⟩
  | exit id => exact ⟨_, a₁, w₁, hq, .pass (x := .inLoop c) rfl (fun _ _ => .inl (by simp)) harr⟩
  | goto l => exact ⟨_, a₁, w₁, hq, .pass (x := .inLoop c) rfl (fun _ _ => .inl (by simp)) harr⟩
  | ret => exact ⟨_, a₁, w₁, hq, .pass (x := .inLoop c) rfl (fun _ _ => .inl (by simp)) harr⟩
  | panic ch => exact ⟨_, a₁, w₁, hq, .pass (x := .inLoop c) rfl (fun _ _ => .inl (by simp)) harr⟩
  | outgrown => exact ⟨_, a₁, w₁, hq, .pass (x := .inLoop c) rfl (fun _ _ => .inl (by simp)) harr⟩

/-- what an end of code promises -/
def EPost (base : Nat) (g : Gh) (s : SS) (w : World) (N : Nat) (Q : Exit → Act → World → Prop) (fr' : Fr) (st' : St) : AE → Prop
  | .normal => ∀ g' a' w', FR g' N fr' a' → Inv base g' st'.abs w' → Ext base g s w g' st'.abs w' → Q .normal a' w'
  | .exit id => ∀ g' a' w', FR g' N fr' a' → Inv base g' st'.abs w' → Ext base g s w g' st'.abs w' → Q (.exit id) a' w'
  | .ret => ∀ g' a' w', FR g' N fr' a' → Inv base g' st'.abs w' → Ext base g s w g' st'.abs w' → Q .ret a' w'
  | .panic v => ∀ g' a' w' c, FR g' N fr' a' → R g' v c → Inv base g' st'.abs w' → Ext base g s w g' st'.abs w' → Q (.panic [{ v := c, recovered := false }]) a' w'

theorem EPost.trans {base : Nat} {g g1 : Gh} {s s1 : SS} {w w1 : World} {N : Nat} {Q : Exit → Act → World → Prop} {fr' : Fr} {st' : St} (hE : Ext base g s w g1 s1 w1) : ∀ (e : AE), EPost base g s w N Q fr' st' e → EPost base g1 s1 w1 N Q fr' st' e
  | .normal, h => fun g' a' w' h1 h2 h3 => h g' a' w' h1 h2 (hE.trans h3)
  | .exit _, h => fun g' a' w' h1 h2 h3 => h g' a' w' h1 h2 (hE.trans h3)
  | .ret, h => fun g' a' w' h1 h2 h3 => h g' a' w' h1 h2 (hE.trans h3)
  | .panic _, h => fun g' a' w' c h1 h2 h3 h4 => h g' a' w' c h1 h2 h3 (hE.trans h4)

/-- what is said of code -/
def CodeOk (P : Program) (base : Nat) (n : Nat) : Prop :=
  ∀ (c : Code) (fr : Fr) (st : St) (e : AE) (fr' : Fr) (st' : St), X P n (.code c fr) st = .code e fr' st' → ∀ (N : Nat) (g : Gh) (a : Act) (w : World) (Q : Exit → Act → World → Prop),
    slotsOk N c = true → FR g N fr a → Inv base g st.abs w → EPost base g st.abs w N Q fr' st' e → c.wp P Q a w

/-- regions that draw -/
def DrawOk (P : Program) (base : Nat) : Prop :=
  ∀ (ih : CallF), CallOk P base ih → ∀ (id : Nat) (ops : Array Oper) (b l : List Nat) (N : Nat) (g : Gh) (fr : Fr) (st : St) (a : Act) (w : World) (d : Drw), planOk ops b l = true →
    xDraw P ih ops b st.ctr l { fr := fr, st := { st with ctr := st.ctr + ops.size }, snaps := [(ops.size, { st with ctr := st.ctr + ops.size })] } = some d →
    (∀ o ∈ ops.toList, dstOk N o = true) → FR g N fr a → Inv base g st.abs w → ∀ (Q : Exit → Act → World → Prop),
      (∀ g' a' w', FR g' N d.fr a' → Inv base g' d.st.abs w' → Ext base g st.abs w g' d.st.abs w' → Q .normal a' w') → (Code.region id ops true).wp P Q a w

theorem ihCall_ok {P : Program} {base n : Nat} (h : ∀ f args st, match X P n (.call f args) st with
    | .call (.val v st') => ∀ g w cargs, Inv base g st.abs w → Rs g args cargs →
        Calls P f ⟨cargs⟩ w fun e w' => ∃ g' c, e = .returned c ∧ R g' v c ∧ Inv base g' st'.abs w' ∧ Ext base g st.abs w g' st'.abs w'
    | .call (.panic v st') => ∀ g w cargs, Inv base g st.abs w → Rs g args cargs →
        Calls P f ⟨cargs⟩ w fun e w' => ∃ g' c, e = .panicked [{ v := c, recovered := false }] ∧ R g' v c ∧ Inv base g' st'.abs w' ∧ Ext base g st.abs w g' st'.abs w'
    | _ => True) : CallOk P base (ihCall (X P n)) := by
  intro f args st
  have := h f args st
  unfold ihCall
  cases hx : X P n (.call f args) st with
  | code e fr s => trivial
  | fail w => trivial
  | call r =>
    rw [hx] at this
    cases r with
    | val v s => exact this
    | panic v s => exact this
    | fail w => trivial

theorem range_map (ops : Array Oper) : (List.range ops.size).map (fun i => ops[i]?) = ops.toList.map some := by
  apply List.ext_getElem?
  intro i
  simp only [List.getElem?_map]
  by_cases h : i < ops.size
  · simp [h]
  · have h1 : (List.range ops.size)[i]? = none := by simp; omega
    have h2 : ops.toList[i]? = none := by simp; omega
    rw [h1, h2]; rfl

theorem loop_round {P : Program} {base n : Nat} (hc : CodeOk P base n)
    (hl : ∀ (b : Code) (fr : Fr) (st : St) (e : AE) (fr' : Fr) (st' : St), X P n (.code (.loop b) fr) st = .code e fr' st' → ∀ (N : Nat) (g : Gh) (a : Act) (w : World) (Q : Exit → Act → World → Prop),
      slotsOk N b = true → FR g N fr a → Inv base g st.abs w → EPost base g st.abs w N Q fr' st' e → LoopWp P b Q a w)
    {b : Code} {fr : Fr} {st : St} {e : AE} {fr' : Fr} {st' : St} (hx : (match X P n (.code b fr) st with
      | .code .normal fr' st' => X P n (.code (.loop b) fr') st'
      | r => r) = .code e fr' st') {N : Nat} {g : Gh} {a : Act} {w : World} {Q : Exit → Act → World → Prop}
    (hs : slotsOk N b = true) (hf : FR g N fr a) (hi : Inv base g st.abs w) (hp : EPost base g st.abs w N Q fr' st' e) : LoopWp P b Q a w := by
  refine loop_step ?_
  cases hx1 : X P n (.code b fr) st with
  | call r => rw [hx1] at hx; simp at hx
  | fail w => rw [hx1] at hx; simp at hx
  | code e1 fr1 st1 =>
    rw [hx1] at hx
    refine hc b fr st e1 fr1 st1 hx1 N g a w _ hs hf hi ?_
    cases e1 with
    | normal =>
      intro g1 a1 w1 f1 i1 x1
      exact hl b fr1 st1 e fr' st' hx N g1 a1 w1 Q hs f1 i1 (hp.trans x1)
    | exit id =>
      simp only [Res.code.injEq] at hx
      obtain ⟨rfl, rfl, rfl⟩ := hx
      exact hp
    | ret =>
      simp only [Res.code.injEq] at hx
      obtain ⟨rfl, rfl, rfl⟩ := hx
      exact hp
    | panic v =>
      simp only [Res.code.injEq] at hx
      obtain ⟨rfl, rfl, rfl⟩ := hx
      exact hp

/-- the body's code, one round of the evaluator -/
theorem code_step {P : Program} {base n : Nat} (hdraw : DrawOk P base) (hc : CodeOk P base n)
    (hl : ∀ (b : Code) (fr : Fr) (st : St) (e : AE) (fr' : Fr) (st' : St), X P n (.code (.loop b) fr) st = .code e fr' st' → ∀ (N : Nat) (g : Gh) (a : Act) (w : World) (Q : Exit → Act → World → Prop),
      slotsOk N b = true → FR g N fr a → Inv base g st.abs w → EPost base g st.abs w N Q fr' st' e → LoopWp P b Q a w)
    (hcall : CallOk P base (ihCall (X P n))) : CodeOk P base (n + 1) := by
  intro c fr st e fr' st' hx N g a w Q hs hf hi hp
  simp only [X, body] at hx
  cases c with
  | skip =>
    simp only [Res.code.injEq] at hx
    obtain ⟨rfl, rfl, rfl⟩ := hx
    exact wp_skip (hp g a w hf hi (Ext.refl _ _ _ _))
  | exit id =>
    simp only [Res.code.injEq] at hx
    obtain ⟨rfl, rfl, rfl⟩ := hx
    exact wp_exit (hp g a w hf hi (Ext.refl _ _ _ _))
  | ret =>
    simp only [Res.code.injEq] at hx
    obtain ⟨rfl, rfl, rfl⟩ := hx
    exact wp_ret (hp g a w hf hi (Ext.refl _ _ _ _))
  | seq x y =>
    simp only [slotsOk, Bool.and_eq_true] at hs
    simp only at hx
    refine wp_seq ?_
    cases hx1 : X P n (.code x fr) st with
    | call r => rw [hx1] at hx; simp at hx
    | fail w => rw [hx1] at hx; simp at hx
    | code e1 fr1 st1 =>
      rw [hx1] at hx
      refine hc x fr st e1 fr1 st1 hx1 N g a w _ hs.1 hf hi ?_
      cases e1 with
      | normal =>
        intro g1 a1 w1 f1 i1 x1
        exact hc y fr1 st1 e fr' st' hx N g1 a1 w1 Q hs.2 f1 i1 (hp.trans x1)
      | exit id =>
        simp only [Res.code.injEq] at hx
        obtain ⟨rfl, rfl, rfl⟩ := hx
        exact hp
      | ret =>
        simp only [Res.code.injEq] at hx
        obtain ⟨rfl, rfl, rfl⟩ := hx
        exact hp
      | panic v =>
        simp only [Res.code.injEq] at hx
        obtain ⟨rfl, rfl, rfl⟩ := hx
        exact hp
  | cond t x y =>
    simp only [slotsOk, Bool.and_eq_true] at hs
    simp only at hx
    split at hx
    · rename_i ht
      have hr := ev_R hf ht
      cases hcc : a.eval t <;> rw [hcc] at hr <;> cases hr
      exact wp_cond_true hcc (hc x fr st e fr' st' hx N g a w Q hs.1 hf hi hp)
    · rename_i ht
      have hr := ev_R hf ht
      cases hcc : a.eval t <;> rw [hcc] at hr <;> cases hr
      exact wp_cond_false hcc (hc y fr st e fr' st' hx N g a w Q hs.2 hf hi hp)
    · simp at hx
  | block id x =>
    simp only [slotsOk] at hs
    simp only at hx
    refine wp_block ?_
    cases hx1 : X P n (.code x fr) st with
    | call r => rw [hx1] at hx; simp at hx
    | fail w => rw [hx1] at hx; simp at hx
    | code e1 fr1 st1 =>
      rw [hx1] at hx
      refine hc x fr st e1 fr1 st1 hx1 N g a w _ hs hf hi ?_
      cases e1 with
      | normal =>
        simp only [Res.code.injEq] at hx
        obtain ⟨rfl, rfl, rfl⟩ := hx
        exact hp
      | exit id' =>
        simp only at hx
        split at hx
        · rename_i hid
          have hid := Nat.eq_of_beq_eq_true hid
          simp only [Res.code.injEq] at hx
          obtain ⟨rfl, rfl, rfl⟩ := hx
          intro g1 a1 w1 f1 i1 x1
          simp only [Exit.inBlock, hid, if_true]
          exact hp g1 a1 w1 f1 i1 x1
        · rename_i hid
          have hne : ¬ id' = id := fun e => by subst e; rw [Nat.beq_refl] at hid; simp at hid
          simp only [Res.code.injEq] at hx
          obtain ⟨rfl, rfl, rfl⟩ := hx
          intro g1 a1 w1 f1 i1 x1
          simp only [Exit.inBlock, hne, if_false]
          exact hp g1 a1 w1 f1 i1 x1
      | ret =>
        simp only [Res.code.injEq] at hx
        obtain ⟨rfl, rfl, rfl⟩ := hx
        exact hp
      | panic v =>
        simp only [Res.code.injEq] at hx
        obtain ⟨rfl, rfl, rfl⟩ := hx
        exact hp
  | loop b => exact wp_of_loop (loop_round hc hl hx (by simpa [slotsOk] using hs) hf hi hp)
  | scope b =>
    simp only [slotsOk] at hs
    simp only at hx
    refine wp_scope_straight (hc b fr st e fr' st' hx N g a w _ hs hf hi ?_)
    cases e <;> exact hp
  | region id ops draw =>
    simp only [slotsOk] at hs
    have hd : ∀ o ∈ ops.toList, dstOk N o = true := List.all_eq_true.1 hs
    cases draw with
    | false =>
      simp only at hx
      refine wp_region (xOps_wp hcall hd ops.toList _ (range_map ops) (fun o ho => ho) hi hf ?_)
      split at hx
      · rename_i fr1 st1 hr
        simp only [Res.code.injEq] at hx
        obtain ⟨rfl, rfl, rfl⟩ := hx
        rw [hr]; exact hp
      · rename_i v fr1 st1 hr
        simp only [Res.code.injEq] at hx
        obtain ⟨rfl, rfl, rfl⟩ := hx
        rw [hr]
        exact hp
      · simp at hx
    | true =>
      simp only at hx
      split at hx
      · rename_i hpl
        split at hx
        · rename_i d hdr
          simp only [Res.code.injEq] at hx
          obtain ⟨rfl, rfl, rfl⟩ := hx
          exact hdraw _ hcall id ops _ _ N g fr st a w d hpl hdr hd hf hi Q hp
        · simp at hx
      · simp at hx
  | rangeFunc f ps x y => simp at hx
  | label l => simp at hx
  | goto l => simp at hx
  | refuse s => simp at hx


/-! ## calls -/
theorem initFr_at : ∀ (args : List V) (i : Nat) (fr : Fr) (t : Nat), Fr.at (initFr args i fr) t = if i ≤ t ∧ t < i + args.length then args.getD (t - i) .undef else Fr.at fr t
  | [], i, fr, t => by
    rw [if_neg (by simp only [List.length_nil]; omega)]; rfl
  | v :: vs, i, fr, t => by
    have e : initFr (v :: vs) i fr = initFr vs (i + 1) (fr.put i v) := rfl
    rw [e, initFr_at vs (i + 1)]
    simp only [List.length_cons]
    by_cases h1 : i + 1 ≤ t ∧ t < i + 1 + vs.length
    · rw [if_pos h1, if_pos (by omega), show t - i = (t - (i + 1)) + 1 from by omega]
      rfl
    · rw [if_neg h1]
      have ep : Fr.at (fr.put i v) t = if t = i then v else Fr.at fr t := by
        simp only [Fr.at, Tr.get_put]
        by_cases htd : t = i <;> simp [htd]
      rw [ep]
      by_cases h2 : t = i
      · rw [if_pos h2, if_pos (by omega), show t - i = 0 from by omega]
        rfl
      · rw [if_neg h2, if_neg (by omega)]

theorem FR_init {g : Gh} {N : Nat} {args : List V} {cargs : List Value} (hr : Rs g args cargs) (hn : args.length ≤ N) :
    FR g N (initFr args 0 .nil) { tmps := (⟨cargs⟩ : Array Value) ++ Array.replicate (N - (⟨cargs⟩ : Array Value).size) Go.undef, defers := [] } := by
  have hl := hr.len
  refine ⟨by simp; omega, rfl, fun t => ?_⟩
  rw [initFr_at, Array.getD_eq_getD_getElem?]
  by_cases h : t < args.length
  · rw [if_pos ⟨Nat.zero_le _, by omega⟩]
    have hx : args[t]? = some args[t] := List.getElem?_eq_getElem h
    obtain ⟨c, h1, h2⟩ := hr.get' hx
    have e1 : args.getD (t - 0) .undef = args[t] := by simp [h]
    have e2 : ((⟨cargs⟩ : Array Value) ++ Array.replicate (N - (⟨cargs⟩ : Array Value).size) Go.undef)[t]? = some c := by
      rw [Array.getElem?_append_left (by simp; omega)]
      simpa using h1
    rw [e1, e2]
    exact h2
  · rw [if_neg (by omega)]
    have e1 : Fr.at (.nil : Fr) t = .undef := rfl
    rw [e1]
    have e2 : (((⟨cargs⟩ : Array Value) ++ Array.replicate (N - (⟨cargs⟩ : Array Value).size) Go.undef)[t]?).getD Go.undef = Go.undef := by
      rw [Array.getElem?_append_right (by simp; omega), Array.getElem?_replicate]
      split <;> rfl
    rw [e2]
    exact R.undef g

theorem vload_ptr {P : Program} {st : St} {t : TypeId} {x v : V} (h : vload P st t x = some v) {g : Gh} {c : Value} (hr : R g x c) : ∃ a, c = .pointer (some a) := by
  unfold vload at h
  split at h
  · cases hr; exact ⟨_, rfl⟩
  · cases hr; exact ⟨_, rfl⟩
  · simp at h

theorem mapM_R {P : Program} {g : Gh} {w : World} (f : ResultVar → Sem Value) (q : ResultVar → Option V) (hq : ∀ x v, q x = some v → ∃ c, (f x).run P w = .ok c w ∧ R g v c) :
    ∀ (l : List ResultVar) (vs : List V), traverse q l = some vs → ∃ cs, (l.mapM f).run P w = .ok cs w ∧ Rs g vs cs
  | [], vs, h => by simp [traverse] at h; subst h; exact ⟨[], by simp, .nil⟩
  | x :: xs, vs, h => by
    obtain ⟨y, ys, h1, h2, rfl⟩ := traverse_cons h
    obtain ⟨c, c1, c2⟩ := hq x y h1
    obtain ⟨cs, d1, d2⟩ := mapM_R f q hq xs ys h2
    exact ⟨c :: cs, by simp [List.mapM_cons, c1, d1], .cons _ _ _ _ c2 d2⟩

theorem tupled_R {g : Gh} {vs : List V} {cs : List Value} (h : Rs g vs cs) : R g (tupled vs) (if h : (⟨cs⟩ : Array Value).size = 1 then (⟨cs⟩ : Array Value)[0] else .tuple ⟨cs⟩) := by
  cases h with
  | nil => exact .tup _ _ .nil
  | cons v c vs cs hv hs =>
    cases hs with
    | nil => simpa [tupled] using hv
    | cons v' c' vs cs hv' hs => simpa [tupled] using R.tup _ _ (.cons _ _ _ _ hv (.cons _ _ _ _ hv' hs))

theorem results_run {P : Program} {base : Nat} {g : Gh} {st : St} {w : World} (hi : Inv base g st.abs w) {N : Nat} {fr : Fr} {a : Act} (hf : FR g N fr a) {fn : Func} {vs : List V}
    (h : traverse (vresult P fr st) fn.results.toList = some vs) : ∃ c, (results fn a.tmps).run P w = .ok c w ∧ R g (tupled vs) c := by
  obtain ⟨cs, h1, h2⟩ := mapM_R (P := P) (g := g) (w := w) (fun
    | .tmp t => pure (a.tmps.getD t Go.undef)
    | .cell p t => do loadVar t (← asAddr (a.tmps.getD p Go.undef))) (vresult P fr st) (fun x v hx => by
      cases x with
      | tmp t =>
        simp only [vresult, Option.some.injEq] at hx
        subst hx
        exact ⟨_, rfl, hf.at_ t⟩
      | cell p t =>
        simp only [vresult] at hx
        have hr := hf.at_ p
        obtain ⟨ad, ha⟩ := vload_ptr hx hr
        obtain ⟨c, h1, h2⟩ := vload_run hi hx hr
        rw [ha] at h1
        refine ⟨c, ?_, h2⟩
        simp only [ha, asAddr, Sem.run_bind, Sem.run_pure, Result.andThen_ok]
        simpa [Instr.loadAt, Instr.sureAddr] using h1) _ _ h
  refine ⟨_, ?_, tupled_R h2⟩
  simp only [results, Sem.run_bind]
  rw [Array.mapM_eq_mapM_toList]
  simp only [Sem.run_map]
  erw [h1]
  rfl

theorem call_step {P : Program} {base n : Nat} (hc : CodeOk P base n) (f : Nat) (args : List V) (st : St) : match X P (n + 1) (.call f args) st with
    | .call (.val v st') => ∀ g w cargs, Inv base g st.abs w → Rs g args cargs →
        Calls P f ⟨cargs⟩ w fun e w' => ∃ g' c, e = .returned c ∧ R g' v c ∧ Inv base g' st'.abs w' ∧ Ext base g st.abs w g' st'.abs w'
    | .call (.panic v st') => ∀ g w cargs, Inv base g st.abs w → Rs g args cargs →
        Calls P f ⟨cargs⟩ w fun e w' => ∃ g' c, e = .panicked [{ v := c, recovered := false }] ∧ R g' v c ∧ Inv base g' st'.abs w' ∧ Ext base g st.abs w g' st'.abs w'
    | _ => True := by
  simp only [X, body]
  cases hfn : P.funcs[f]? with
  | none => trivial
  | some fn =>
    simp only
    cases hb : fn.body with
    | none => trivial
    | some c =>
      simp only
      cases hok : (Nat.ble args.length fn.ntmps && slotsOk fn.ntmps c) with
      | false => trivial
      | true =>
        obtain ⟨h1, h2⟩ := and3 hok
        have h1 := Nat.le_of_ble_eq_true h1
        simp only
        cases hx : X P n (.code c (initFr args 0 .nil)) st with
        | call r => trivial
        | fail w => trivial
        | code e fr' st' =>
          cases e with
          | exit id => trivial
          | panic v =>
            intro g w cargs hi hr
            refine calls_of_wp hfn hb (hc c _ st _ fr' st' hx fn.ntmps g _ w _ h2 (FR_init hr h1) hi ?_)
            intro g' a' w' c' f1 r1 i1 x1
            exact ⟨f1.defers, g', c', rfl, r1, i1, x1⟩
          | normal =>
            simp only
            cases hv : traverse (vresult P fr' st') fn.results.toList with
            | none => trivial
            | some vs =>
              intro g w cargs hi hr
              refine calls_of_wp hfn hb (hc c _ st _ fr' st' hx fn.ntmps g _ w _ h2 (FR_init hr h1) hi ?_)
              intro g' a' w' f1 i1 x1
              obtain ⟨cv, q1, q2⟩ := results_run i1 f1 hv
              exact ⟨f1.defers, cv, q1, g', cv, rfl, q2, i1, x1⟩
          | ret =>
            simp only
            cases hv : traverse (vresult P fr' st') fn.results.toList with
            | none => trivial
            | some vs =>
              intro g w cargs hi hr
              refine calls_of_wp hfn hb (hc c _ st _ fr' st' hx fn.ntmps g _ w _ h2 (FR_init hr h1) hi ?_)
              intro g' a' w' f1 i1 x1
              obtain ⟨cv, q1, q2⟩ := results_run i1 f1 hv
              exact ⟨f1.defers, cv, q1, g', cv, rfl, q2, i1, x1⟩

theorem all_ok {P : Program} {base : Nat} (hdraw : DrawOk P base) : ∀ n, CodeOk P base n ∧
    (∀ (b : Code) (fr : Fr) (st : St) (e : AE) (fr' : Fr) (st' : St), X P n (.code (.loop b) fr) st = .code e fr' st' → ∀ (N : Nat) (g : Gh) (a : Act) (w : World) (Q : Exit → Act → World → Prop),
      slotsOk N b = true → FR g N fr a → Inv base g st.abs w → EPost base g st.abs w N Q fr' st' e → LoopWp P b Q a w) ∧ CallOk P base (ihCall (X P n))
  | 0 => ⟨fun c fr st e fr' st' h => by simp [X] at h, fun b fr st e fr' st' h => by simp [X] at h, ihCall_ok (fun f args st => by simp [X])⟩
  | n + 1 => by
    obtain ⟨h1, h2, h3⟩ := all_ok hdraw n
    refine ⟨code_step hdraw h1 h2 h3, fun b fr st e fr' st' hx N g a w Q hs hf hi hp => loop_round h1 h2 (by simp only [X, body] at hx; exact hx) hs hf hi hp, ihCall_ok (call_step h1)⟩

end Go.Vm
