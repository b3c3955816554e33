/- Code, one round of the evaluator; calls; deferred calls; rounds of a range over a function. -/
import Derived.Test.YtphinjijaglokaaGreatDoorVmSound
namespace Go.Vm
open Go Go.RowKit
theorem JcZ {P : Program} {f : Nat} (h : Qx P f = true) (args : Array Value) (w : World) : (callFunc f args).run P w = .ok (.enter f args) w := by
 unfold Qx at h
 split at h
 ·rename_i fn hfn
  obtain ⟨h1, h2⟩ := Jav h
  have h2 : ¬ fn.name = "runtime.NumGoroutine" := by simpa using h2
  cases hb : fn.body with
  | none => rw [hb] at h1; simp at h1
  | some c => simp [callFunc, hfn, h2, hb]
 ·simp at h
theorem Jk1 [Memo] {P : Program} {base n : Nat} (hdraw : Jke P base) (hc : Jda P base n) (hl : Jkd P base n) (hcall : Jb9 P base (ihCall (X P n))) : Jda P base (n + 1) := by
 intro rd c fr st e fr' st' hx N g a w Q brd hrd hs hf hi hp
 simp only [X, Jek, body] at hx
 cases c with
 | skip =>
  simp only [Res.code.injEq] at hx
  obtain ⟨rfl, rfl, rfl⟩ := hx
  exact wpIn_skip (hp g a w hf hi (Ext.refl _ _ _ _))
 | exit id =>
  simp only [Res.code.injEq] at hx
  obtain ⟨rfl, rfl, rfl⟩ := hx
  exact wpIn_exit (hp g a w hf hi (Ext.refl _ _ _ _))
 | ret =>
  simp only [Res.code.injEq] at hx
  obtain ⟨rfl, rfl, rfl⟩ := hx
  exact wpIn_ret (hp g a w hf hi (Ext.refl _ _ _ _))
 | seq x y =>
  simp only [Qg, Bool.and_eq_true] at hs
  simp only at hx
  refine wpIn_seq ?_
  cases hx1 : X P n (.code rd x fr) st with
  | code e1 fr1 st1 =>
   rw [hx1] at hx
   refine hc rd x fr st e1 fr1 st1 hx1 N g a w _ brd hrd hs.1 hf hi ?_
   cases e1 with
   | normal =>
    intro g1 a1 w1 f1 i1 x1
    exact hc rd y fr1 st1 e fr' st' hx N g1 a1 w1 Q brd (hrd.mono x1.le) hs.2 f1 i1 (hp.trans x1)
   | exit id =>
    simp only [Res.code.injEq] at hx
    obtain ⟨rfl, rfl, rfl⟩ := hx
    exact hp
   | ret =>
    simp only [Res.code.injEq] at hx
    obtain ⟨rfl, rfl, rfl⟩ := hx
    exact hp
   | panic v =>
    simp only [Res.code.injEq] at hx
    obtain ⟨rfl, rfl, rfl⟩ := hx
    exact hp
  | _ => rw [hx1] at hx; simp at hx
 | cond t x y =>
  simp only [Qg, Bool.and_eq_true] at hs
  simp only at hx
  split at hx
  ·rename_i ht
   have hr := QN hf ht
   cases hcc : a.eval t <;> rw [hcc] at hr <;> cases hr
   exact wpIn_cond_true hcc (hc rd x fr st e fr' st' hx N g a w Q brd hrd hs.1 hf hi hp)
  ·rename_i ht
   have hr := QN hf ht
   cases hcc : a.eval t <;> rw [hcc] at hr <;> cases hr
   exact wpIn_cond_false hcc (hc rd y fr st e fr' st' hx N g a w Q brd hrd hs.2 hf hi hp)
  ·simp at hx
 | block id x =>
  simp only [Qg] at hs
  simp only at hx
  refine wpIn_block ?_
  cases hx1 : X P n (.code rd x fr) st with
  | code e1 fr1 st1 =>
   rw [hx1] at hx
   refine hc rd x fr st e1 fr1 st1 hx1 N g a w _ brd hrd hs hf hi ?_
   cases e1 with
   | normal =>
    simp only [Res.code.injEq] at hx
    obtain ⟨rfl, rfl, rfl⟩ := hx
    exact hp
   | exit id' =>
    simp only at hx
    split at hx
    ·rename_i hid
     have hid := Nat.eq_of_beq_eq_true hid
     simp only [Res.code.injEq] at hx
     obtain ⟨rfl, rfl, rfl⟩ := hx
     intro g1 a1 w1 f1 i1 x1
     simp only [Exit.inBlock, hid, if_true]
     exact hp g1 a1 w1 f1 i1 x1
    ·rename_i hid
     have hne : ¬ id' = id := fun e => by subst e; rw [Nat.beq_refl] at hid; simp at hid
     simp only [Res.code.injEq] at hx
     obtain ⟨rfl, rfl, rfl⟩ := hx
     intro g1 a1 w1 f1 i1 x1
     simp only [Exit.inBlock, hne, if_false]
     exact hp g1 a1 w1 f1 i1 x1
   | ret =>
    simp only [Res.code.injEq] at hx
    obtain ⟨rfl, rfl, rfl⟩ := hx
    exact hp
   | panic v =>
    simp only [Res.code.injEq] at hx
    obtain ⟨rfl, rfl, rfl⟩ := hx
    exact hp
  | _ => rw [hx1] at hx; simp at hx
 | loop b => exact Jkc (JgH hc hl hx hrd (by simpa [Qg] using hs) hf hi hp)
 | scope b =>
  simp only [Qg] at hs
  simp only at hx
  refine Jdr (hc rd b fr st e fr' st' hx N g a w _ brd hrd hs hf hi ?_)
  cases e <;> exact hp
 | region id ops draw =>
  simp only [Qg] at hs
  have hd : ∀ o ∈ ops.toList, Jcz N o = true := List.all_eq_true.1 hs
  cases draw with
  | false =>
   simp only at hx
   refine wpIn_region (JkP hcall hd (rd := rd) (by rintro rfl; cases hrd; rfl) ops.toList _ (Jhr ops) (fun o ho => ho) hi hf ?_)
   split at hx
   ·rename_i fr1 st1 hr
    simp only [Res.code.injEq] at hx
    obtain ⟨rfl, rfl, rfl⟩ := hx
    rw [hr]; exact hp
   ·rename_i v fr1 st1 hr
    simp only [Res.code.injEq] at hx
    obtain ⟨rfl, rfl, rfl⟩ := hx
    rw [hr]
    exact hp
   ·simp at hx
  | true =>
   simp only at hx
   split at hx
   ·rename_i hpl
    split at hx
    ·rename_i d hdr
     simp only [Res.code.injEq] at hx
     obtain ⟨rfl, rfl, rfl⟩ := hx
     exact hdraw _ hcall id ops _ _ N g fr st a w d hpl hdr hd hf hi Q brd hp
    ·simp at hx
   ·simp at hx
 | rangeFunc gf ps x y =>
  simp only [Qg, Bool.and_eq_true] at hs
  obtain ⟨⟨hs1, hs2⟩, hs3⟩ := hs
  have hps : ∀ p ∈ ps.toList, p < N := fun p hp => by
   have := List.all_eq_true.1 hs1 p hp
   simpa [Nat.blt_eq] using this
  simp only at hx
  split at hx
  rotate_left
  ·simp at hx
  rename_i f first captured hg
  split at hx
  rotate_left
  ·simp at hx
  rename_i id fr1 st1 hcb hen
  have hrg := QN hf hg
  generalize hcc : a.eval gf = cg at hrg
  cases hrg with
  | fn _ _ _ l1 l2 h1 h2 =>
  refine wpIn_rangeFunc (fun fn _ => ?_)
  obtain ⟨l, mark, w1, g1, bs, e1, b1, f1, i1, x1⟩ := Jkf (P := P) hi hf hrd hen hs2 hs3 hps fn
  have hargs : Rs g1 (first ++ [.yld id] ++ captured) (l1 ++ [.func (.yield l) #[] #[]] ++ l2) := ((h1.mono x1.le).app (.cons _ _ _ _ (.yld _ _ _ _ b1) .nil)).app (h2.mono x1.le)
  refine ⟨l, mark, w1, { target := .fn (.func f) ⟨l2⟩, args := ⟨l1⟩ ++ #[.func (.yield l) #[] #[]] }, w1, f, ⟨l1 ++ [.func (.yield l) #[] #[]] ++ l2⟩, w1, e1, ?_, fun _ _ => trivial, ?_, fun h => by simp [Fn, Fence.wide] at h, ?_⟩
  ·have e3 : Array.map a.eval #[Operand.const (Value.func (Fn.yield l) #[] #[])] = #[Value.func (Fn.yield l) #[] #[]] := by simp [Act.eval]
   simp only [resolve, hcc, Deferred.ofValue, Sem.run_pure, e3]
  ·have e2 : (⟨l1⟩ ++ #[Value.func (.yield l) #[] #[]] ++ ⟨l2⟩ : Array Value) = ⟨l1 ++ [.func (.yield l) #[] #[]] ++ l2⟩ := by apply Array.ext'; simp
   simp only [invoke]
   rw [e2]
   exact JcZ hcb _ _
  ·refine Jgw ?_
   have hco := hcall fr.gl (.f f) (first ++ [.yld id] ++ captured) st1
   split at hx
   ·rename_i v st2 hv
    rw [hv] at hco
    refine (hco g1 w1 _ (hf.gl.mono x1.le) i1 hargs).mono ?_
    rintro e2 w2 ⟨g2, c2, rfl, r2, i2, x2⟩
    obtain ⟨rfl, s, pend, t, ps', xa, ya, hbx, hns, rfl, hcase⟩ := Ji6 hx
    have b2 := x2.le.box _ _ b1
    obtain ⟨m, N', q1, q2, q3, _⟩ := i2.loop hbx b2
    obtain ⟨i3, x3⟩ := i2.putLoop hbx b2 q1 .exhausted pend
    have hend := run_endLoop (P := P) q1 (by rw [q2]; exact hns)
    have hsame : ({ m with state := .exhausted } : Loop) = { m with state := .exhausted, pending := pend } := by rw [← q3]
    rw [hsame, q3] at hend
    have xx := (x1.trans x2).trans x3
    have ff : FR g2 N fr' { a with defers := mark ++ a.defers } := f1.mono (x2.le)
    refine ⟨pend, _, hend, ?_⟩
    rcases hcase with ⟨rfl, rfl⟩ | ⟨rfl, rfl⟩ | ⟨z, rfl, rfl⟩
    ·exact hp g2 _ _ ff i3 xx
    ·exact wpIn_ret (hp g2 _ _ ff i3 xx)
    ·exact wpIn_exit (hp g2 _ _ ff i3 xx)
   ·rename_i v st2 hv
    simp only [Res.code.injEq] at hx
    obtain ⟨rfl, rfl, rfl⟩ := hx
    rw [hv] at hco
    refine (hco g1 w1 _ (hf.gl.mono x1.le) i1 hargs).mono ?_
    rintro e2 w2 ⟨g2, c2, rfl, r2, i2, x2⟩
    exact hp g2 _ _ _ (f1.mono x2.le) r2 i2 (x1.trans x2)
   ·simp at hx
 | label l => simp at hx
 | goto l => simp at hx
 | refuse s => simp at hx
end Go.Vm
namespace Go.Vm
open Go Go.RowKit
theorem JgE : ∀ (args : List V) (i : Nat) (t : Tr V) (k : Nat), (Jhi args i t).at k = if i ≤ k ∧ k < i + args.length then args.getD (k - i) .undef else t.at k
 | [], i, t, k => by
  rw [if_neg (by simp only [List.length_nil]; omega)]; rfl
 | v :: vs, i, t, k => by
  have e : Jhi (v :: vs) i t = Jhi vs (i + 1) (t.put i v) := rfl
  rw [e, JgE vs (i + 1)]
  simp only [List.length_cons]
  by_cases h1 : i + 1 ≤ k ∧ k < i + 1 + vs.length
  ·rw [if_pos h1, if_pos (by omega), show k - i = (k - (i + 1)) + 1 from by omega]
   rfl
  ·rw [if_neg h1]
   have ep : (t.put i v).at k = if k = i then v else t.at k := by
    simp only [Tr.at, Tr.get_put]
    by_cases htd : k = i <;> simp [htd]
   rw [ep]
   by_cases h2 : k = i
   ·rw [if_pos h2, if_pos (by omega), show k - i = 0 from by omega]
    rfl
   ·rw [if_neg h2, if_neg (by omega)]
theorem JkS [Memo] {g : Gh} {gl : Gl} (hgl : GlR g gl) {N : Nat} {args : List V} {cargs : List Value} (hr : Rs g args cargs) (hn : args.length ≤ N) :
  FR g N (Jx gl args) { tmps := (⟨cargs⟩ : Array Value) ++ Array.replicate (N - (⟨cargs⟩ : Array Value).size) Go.undef, defers := [] } := by
 have hl := hr.len
 refine ⟨by simp; omega, .nil, hgl, fun t => ?_⟩
 show R g ((Jhi args 0 .nil).at t) _
 rw [JgE, Array.getD_eq_getD_getElem?]
 by_cases h : t < args.length
 ·rw [if_pos ⟨Nat.zero_le _, by omega⟩]
  have hx : args[t]? = some args[t] := List.getElem?_eq_getElem h
  obtain ⟨c, h1, h2⟩ := hr.get' hx
  have e1 : args.getD (t - 0) .undef = args[t] := by simp [h]
  have e2 : ((⟨cargs⟩ : Array Value) ++ Array.replicate (N - (⟨cargs⟩ : Array Value).size) Go.undef)[t]? = some c := by
   rw [Array.getElem?_append_left (by simp; omega)]
   simpa using h1
  rw [e1, e2]
  exact h2
 ·rw [if_neg (by omega)]
  have e1 : (Tr.nil : Tr V).at t = .undef := rfl
  rw [e1]
  have e2 : (((⟨cargs⟩ : Array Value) ++ Array.replicate (N - (⟨cargs⟩ : Array Value).size) Go.undef)[t]?).getD Go.undef = Go.undef := by
   rw [Array.getElem?_append_right (by simp; omega), Array.getElem?_replicate]
   split <;> rfl
  rw [e2]
  exact R.undef g
theorem Jlw {P : Program} {st : St} {t : TypeId} {x v : V} (h : Qe P st t x = some v) {g : Gh} {c : Value} (hr : R g x c) : ∃ a, c = .pointer (some a) := by
 unfold Qe at h
 split at h
 ·cases hr; exact ⟨_, rfl⟩
 ·cases hr; exact ⟨_, rfl⟩
 ·simp at h
theorem Jne {P : Program} {g : Gh} {w : World} (f : ResultVar → Sem Value) (q : ResultVar → Option V) (hq : ∀ x v, q x = some v → ∃ c, (f x).run P w = .ok c w ∧ R g v c) :
  ∀ (l : List ResultVar) (vs : List V), Jd q l = some vs → ∃ cs, (l.mapM f).run P w = .ok cs w ∧ Rs g vs cs
 | [], vs, h => by simp [Jd] at h; subst h; exact ⟨[], by simp, .nil⟩
 | x :: xs, vs, h => by
  obtain ⟨y, ys, h1, h2, rfl⟩ := Ja3 h
  obtain ⟨c, c1, c2⟩ := hq x y h1
  obtain ⟨cs, d1, d2⟩ := Jne f q hq xs ys h2
  exact ⟨c :: cs, by simp [List.mapM_cons, c1, d1], .cons _ _ _ _ c2 d2⟩
theorem Jnf {g : Gh} {vs : List V} {cs : List Value} (h : Rs g vs cs) : R g (JD vs) (if h : (⟨cs⟩ : Array Value).size = 1 then (⟨cs⟩ : Array Value)[0] else .tuple ⟨cs⟩) := by
 cases h with
 | nil => exact .tup _ _ .nil
 | cons v c vs cs hv hs =>
  cases hs with
  | nil => simpa [JD] using hv
  | cons v' c' vs cs hv' hs => simpa [JD] using R.tup _ _ (.cons _ _ _ _ hv (.cons _ _ _ _ hv' hs))
theorem Jfj {P : Program} {base : Nat} {g : Gh} {st : St} {w : World} (hi : Inv base g st.abs w) {fr : Fr} {tmps : Array Value} (hf : ∀ t, R g (Fr.at fr t) (tmps.getD t Go.undef)) {fn : Func} {vs : List V}
  (h : Jd (Jv P fr st) fn.results.toList = some vs) : ∃ c, (results fn tmps).run P w = .ok c w ∧ R g (JD vs) c := by
 obtain ⟨cs, h1, h2⟩ := Jne (P := P) (g := g) (w := w) (fun
  | .tmp t => pure (tmps.getD t Go.undef)
  | .cell p t => do loadVar t (← asAddr (tmps.getD p Go.undef))) (Jv P fr st) (fun x v hx => by
   cases x with
   | tmp t =>
    simp only [Jv, Option.some.injEq] at hx
    subst hx
    exact ⟨_, rfl, hf t⟩
   | cell p t =>
    simp only [Jv] at hx
    have hr := hf p
    obtain ⟨ad, ha⟩ := Jlw hx hr
    obtain ⟨c, h1, h2⟩ := JgX hi hx hr
    rw [ha] at h1
    refine ⟨c, ?_, h2⟩
    simp only [ha, asAddr, Sem.run_bind, Sem.run_pure, Result.andThen_ok]
    simpa [Instr.loadAt, Instr.sureAddr] using h1) _ _ h
 refine ⟨_, ?_, Jnf h2⟩
 simp only [results, Sem.run_bind]
 rw [Array.mapM_eq_mapM_toList]
 simp only [Sem.run_map]
 erw [h1]
 rfl
inductive MR (g : Gh) : Md → FrameMode → Prop
 | ret : MR g .ret .returning
 | pan (v : V) (c : Value) (h : R g v c) : MR g (.pan v) (.panicking [{ v := c, recovered := false }])
 | got (v : V) (c : Value) (h : R g v c) : MR g (.got v) (.panicking [{ v := c, recovered := true }])
theorem MR.mono {g g' : Gh} (hl : g.le g') {m : Md} {u : FrameMode} (h : MR g m u) : MR g' m u := by
 cases h with
 | ret => exact .ret
 | pan v c h => exact .pan _ _ (h.mono hl)
 | got v c h => exact .got _ _ (h.mono hl)
theorem MR.settle {g : Gh} {m : Md} {u : FrameMode} (h : MR g m u) : MR g (JfB m) (settle u) := by
 cases h with
 | ret => exact .ret
 | pan v c h => exact .pan _ _ h
 | got v c h => exact .ret
theorem MR.notRun {g : Gh} {m : Md} {u : FrameMode} (h : MR g m u) : u ≠ .run := by
 cases h <;> simp
def CallPost (base : Nat) (g : Gh) (s : SS) (w : World) : ER → Ending → World → Prop
 | .val v st' => fun e w' => ∃ g' c, e = .returned c ∧ R g' v c ∧ Inv base g' st'.abs w' ∧ Ext base g s w g' st'.abs w'
 | .panic v st' => fun e w' => ∃ g' c, e = .panicked [{ v := c, recovered := false }] ∧ R g' v c ∧ Inv base g' st'.abs w' ∧ Ext base g s w g' st'.abs w'
 | .fail _ => fun _ _ => False
theorem CallPost.trans {base : Nat} {g g1 : Gh} {s s1 : SS} {w w1 : World} (hE : Ext base g s w g1 s1 w1) {r : ER} {e : Ending} {w' : World} (h : CallPost base g1 s1 w1 r e w') : CallPost base g s w r e w' := by
 cases r with
 | val v st' => obtain ⟨g', c, h1, h2, h3, h4⟩ := h; exact ⟨g', c, h1, h2, h3, hE.trans h4⟩
 | panic v st' => obtain ⟨g', c, h1, h2, h3, h4⟩ := h; exact ⟨g', c, h1, h2, h3, hE.trans h4⟩
 | fail w => exact h
def Jeu [Memo] (P : Program) (base n : Nat) : Prop :=
 ∀ gl f args m st m' st', X P n (.dcall gl f args m) st = .dcall m' st' → ∀ g w cargs u, GlR g gl → Inv base g st.abs w → Rs g args cargs → MR g m u →
  CallsDIn (Fn none) 0 P f ⟨cargs⟩ u w fun e u' w' => ∃ g' v, e = .returned v ∧ MR g' m' u' ∧ Inv base g' st'.abs w' ∧ Ext base g st.abs w g' st'.abs w'
theorem JaD {P : Program} {fn : Func} {tmps : Array Value} {R R' : Ending → World → Prop} (hR : ∀ e w, R e w → R' e w) : ∀ (ds : List Deferred) (u : FrameMode) (w : World),
  LeavesInM (Fn none) 0 P fn tmps R ds u w → LeavesInM (Fn none) 0 P fn tmps R' ds u w
 | [], u, w, h => by
  cases u with
  | run => exact h.elim
  | returning => obtain ⟨v, h1, h2⟩ := h; exact ⟨v, h1, hR _ _ h2⟩
  | panicking ch => exact hR _ _ h
 | d :: ds, u, w, h => by
  refine ⟨h.1, ?_⟩
  rcases h.2 with ⟨r, w', h1, h2, h3⟩ | ⟨h0, fv, cap, f, args, h1, h2, h3, h4⟩
  ·exact .inl ⟨r, w', h1, h2, JaD hR ds u w' h3⟩
  ·refine .inr ⟨h0, fv, cap, f, args, h1, h2, h3, h4.mono fun e u' w' he => ?_⟩
   cases e with
   | returned v => exact JaD hR ds _ w' he
   | panicked ch => exact JaD hR ds _ w' he
   | outgrown => exact hR _ _ he
theorem JeZ [Memo] {P : Program} {base n : Nat} (hd : Jeu P base n) {fn : Func} {fr : Fr} {tmps : Array Value} : ∀ (ds : List Df) (m : Md) (st : St) (r : ER), Jas P (X P n) fn fr ds m st = .call r →
  ∀ (g : Gh) (w : World) (dds : List Deferred) (u : FrameMode), GlR g fr.gl → (∀ t, R g (Fr.at fr t) (tmps.getD t Go.undef)) → DRs g ds dds → MR g m u → Inv base g st.abs w →
  LeavesInM (Fn none) 0 P fn tmps (CallPost base g st.abs w r) dds u w
 | [], m, st, r, h, g, w, dds, u, hgl, hf, hds, hm, hi => by
  cases hds
  cases hm with
  | ret =>
   simp only [Jas] at h
   split at h
   ·rename_i vs hv
    simp only [Res.call.injEq] at h; subst h
    obtain ⟨c, h1, h2⟩ := Jfj hi hf hv
    exact ⟨c, h1, g, c, rfl, h2, hi, Ext.refl _ _ _ _⟩
   ·simp at h
  | pan v c hv =>
   simp only [Jas, Res.call.injEq] at h; subst h
   exact ⟨g, c, rfl, hv, hi, Ext.refl _ _ _ _⟩
  | got v c hv => simp [Jas] at h
 | .mark id :: ds, m, st, r, h, g, w, dds, u, hgl, hf, hds, hm, hi => by
  cases hds with
  | cons _ d _ dds hdd hdds =>
  cases hdd with
  | mark _ b o bs hb =>
  simp only [Jas] at h
  split at h
  rotate_left
  ·simp at h
  rename_i hbx
  obtain ⟨b', o', bs', mo, h1, h2, h3⟩ := hi.box id _ hbx
  have e1 : (b', o', bs') = (b, o, bs) := by rw [h1] at hb; simpa using hb
  simp only [Prod.mk.injEq] at e1
  obtain ⟨rfl, rfl, rfl⟩ := e1
  cases h3
  obtain ⟨i1, x1⟩ := hi.putObj (x := .mark true) (m := .deferred none) hbx hb .shut
  refine ⟨hm.notRun, .inl ⟨b', _, rfl, run_takeDeferred h2, ?_⟩⟩
  exact JaD (fun e w' he => he.trans x1) _ _ _ (JeZ hd ds m _ r h g _ dds u hgl hf hdds hm i1)
 | .call f args :: ds, m, st, r, h, g, w, dds, u, hgl, hf, hds, hm, hi => by
  cases hds with
  | cons _ d _ dds hdd hdds =>
  cases hdd with
  | call _ _ cap cargs ha =>
  simp only [Jas] at h
  split at h
  rotate_left
  ·simp at h
  rename_i hcb
  split at h
  ·rename_i m' st' hx
   have hc := hd fr.gl f args m st m' st' hx g w _ u hgl hi ha hm
   refine ⟨hm.notRun, .inr ⟨fun h => by simp [Fn, Fence.wide] at h, .func f, cap, f, ⟨cargs.toList ++ cap.toList⟩, rfl, ?_, fun _ _ => trivial, hc.mono ?_⟩⟩
   ·have e2 : cargs ++ cap = ⟨cargs.toList ++ cap.toList⟩ := by apply Array.ext'; simp
    simp only [invoke]
    rw [e2]
    exact JcZ hcb _ _
   ·rintro e u' w' ⟨g', v, rfl, hm', i1, x1⟩
    exact JaD (fun e w' he => he.trans x1) _ _ _ (JeZ hd ds (JfB m') st' r h g' w' dds (settle u') (hgl.mono x1.le) (fun t => (hf t).mono x1.le) (hdds.mono x1.le) hm'.settle i1)
  ·simp at h
  ·simp at h
def JdV [Memo] (P : Program) (base : Nat) : Prop := ∀ gl f args (st : St) v st', (Memo.look f).run args st = some (v, st') → ∀ g w cargs, GlR g gl → Inv base g st.abs w → Rs g args cargs → Calls P f ⟨cargs⟩ w (CallPost base g st.abs w (.val v st'))
theorem Jof [Memo] {P : Program} {base n : Nat} (hmemo : JdV P base) (hc : Jda P base n) (hd : Jeu P base n) (gl : Gl) (f : Nat) (args : List V) (st : St) (r : ER) (h : X P (n + 1) (.call gl f args) st = .call r) :
  ∀ g w cargs, GlR g gl → Inv base g st.abs w → Rs g args cargs → Calls P f ⟨cargs⟩ w (CallPost base g st.abs w r) := by
 intro g w cargs hgl hi hr
 simp only [X, Jek] at h
 split at h
 ·rename_i v st' hv
  simp only [Res.call.injEq] at h
  subst h
  exact hmemo gl f args st v st' hv g w cargs hgl hi hr
 simp only [body] at h
 split at h
 ·simp at h
 rename_i fn hfn
 split at h
 ·simp at h
 rename_i c hb
 split at h
 ·simp at h
 rename_i hok
 obtain ⟨h1, h2⟩ := Jav hok
 have h1 := Nat.le_of_ble_eq_true h1
 have go : ∀ (e : AE) (fr' : Fr) (st' : St) (m : Md), X P n (.code none c (Jx gl args)) st = .code e fr' st' → Jas P (X P n) fn fr' fr'.ds m st' = .call r → (e = .normal ∧ m = .ret ∨ e = .ret ∧ m = .ret ∨ ∃ v, e = .panic v ∧ m = .pan v) →
   Calls P f ⟨cargs⟩ w (CallPost base g st.abs w r) := by
  intro e fr' st' m hx hv hcase
  refine (callsIn_wide (n := 0)).1 (callsIn_of_wp_marks (F := Fn none) hfn hb trivial ?_)
  refine hc none c _ st e fr' st' hx fn.ntmps g _ w _ none .none h2 (JkS hgl hr h1) hi ?_
  have leave : ∀ g' a' w' u, FR g' fn.ntmps fr' a' → Inv base g' st'.abs w' → Ext base g st.abs w g' st'.abs w' → MR g' m u → LeavesInM (Fn none) 0 P fn a'.tmps (CallPost base g st.abs w r) a'.defers u w' := fun g' a' w' u f1 i1 x1 hm =>
   JaD (fun e w' he => he.trans x1) _ _ _ (JeZ hd fr'.ds m st' r hv g' w' a'.defers u f1.gl f1.at_ f1.defers hm i1)
  rcases hcase with ⟨rfl, rfl⟩ | ⟨rfl, rfl⟩ | ⟨v, rfl, rfl⟩
  ·intro g' a' w' f1 i1 x1
   exact leave g' a' w' .returning f1 i1 x1 .ret
  ·intro g' a' w' f1 i1 x1
   exact leave g' a' w' .returning f1 i1 x1 .ret
  ·intro g' a' w' c' f1 r1 i1 x1
   exact leave g' a' w' (.panicking [{ v := c', recovered := false }]) f1 i1 x1 (.pan _ _ r1)
 split at h
 ·simp at h
 ·rename_i v fr' st' hx
  exact go _ _ _ _ hx h (.inr (.inr ⟨v, rfl, rfl⟩))
 ·rename_i e fr' st' hn1 hn2 hx
  refine go _ _ _ _ hx h ?_
  cases e with
  | normal => exact .inl ⟨rfl, rfl⟩
  | ret => exact .inr (.inl ⟨rfl, rfl⟩)
  | exit id => exact (hn1 id rfl).elim
  | panic v => exact (hn2 v rfl).elim
 ·simp at h
 ·simp at h
end Go.Vm
namespace Go.Vm
open Go Go.RowKit
theorem Ji0 {g : Gh} : ∀ (ps : List Tmp) (vs : List V) (t : Tr V) (tmps : Array Value) (cs : List Value), Rs g vs cs → (∀ p ∈ ps, p < tmps.size) → (∀ k, R g (t.at k) (tmps.getD k Go.undef)) →
  ((ps.zip cs).foldl (fun (tmps : Array Value) (p : Tmp × Value) => tmps.setIfInBounds p.1 p.2) tmps).size = tmps.size ∧
  ∀ k, R g ((Jc6 ps vs t).at k) (((ps.zip cs).foldl (fun (tmps : Array Value) (p : Tmp × Value) => tmps.setIfInBounds p.1 p.2) tmps).getD k Go.undef)
 | [], vs, t, tmps, cs, _, _, h => ⟨rfl, fun k => by cases vs <;> exact h k⟩
 | p :: ps, [], t, tmps, cs, hr, _, h => by cases hr; exact ⟨rfl, h⟩
 | p :: ps, v :: vs, t, tmps, cs, hr, hp, h => by
  cases hr with
  | cons _ c _ cs hv hs =>
  have hpl := hp p (by simp)
  have key : ∀ k, R g ((t.put p v).at k) ((tmps.setIfInBounds p c).getD k Go.undef) := fun k => by
   have ep : (t.put p v).at k = if k = p then v else t.at k := by
    simp only [Tr.at, Tr.get_put]
    by_cases htd : k = p <;> simp [htd]
   rw [ep]
   by_cases hk : k = p
   ·subst hk
    simp [Array.getD, hpl, hv]
   ·rw [if_neg hk]
    have e2 : (tmps.setIfInBounds p c).getD k Go.undef = tmps.getD k Go.undef := by
     simp only [Array.getD_eq_getD_getElem?]
     rw [Array.getElem?_setIfInBounds_ne (Ne.symm hk)]
    rw [e2]; exact h k
  obtain ⟨h1, h2⟩ := Ji0 ps vs (t.put p v) (tmps.setIfInBounds p c) cs hs (fun q hq => by simpa using hp q (by simp [hq])) key
  exact ⟨by simpa using h1, h2⟩
theorem Jng (m : Loop) (cs : List Value) : Jgx m ⟨cs⟩ = (m.params.toList.zip cs).foldl (fun (tmps : Array Value) (p : Tmp × Value) => tmps.setIfInBounds p.1 p.2) m.tmps := by
 unfold Jgx
 rw [← Array.foldl_toList]
 simp
theorem Jnh [Memo] {P : Program} {base n : Nat} (hc : Jda P base n) (gl : Gl) (id : Nat) (args : List V) (st : St) (r : ER) (h : X P (n + 1) (.round gl id args) st = .call r) :
  ∀ g w cargs, GlR g gl → Inv base g st.abs w → Rs g args cargs → Jo9 P g (.y id) ⟨cargs⟩ w (CallPost base g st.abs w r) := by
 intro g w cargs hgl hi hr
 simp only [X, Jek, body] at h
 split at h
 rotate_left
 ·simp at h
 rename_i s pend t ps x y hbx
 obtain ⟨b, o, bs, _, hb, _⟩ := hi.box id _ hbx
 split at h
 rotate_left
 ·simp at h
 rename_i hlen
 have hlen := Nat.eq_of_beq_eq_true hlen
 obtain ⟨m, N, q1, q2, q3, q4, q5, q6, qN, qt, qa, qb, qp⟩ := hi.loop hbx hb
 split at h
 rotate_left
 ·simp at h
 ·simp at h
 rename_i fr1 st1 hx1
 split at h
 rotate_left
 ·simp at h
 rename_i pend1 t1 ps1 x1 y1 hbx1
 split at h
 rotate_left
 ·simp at h
 ·simp at h
 rename_i e fr2 st2 hx2
 refine ⟨b, o, bs, m, hb, q1, ?_, fun rd => ?_⟩
 ·have := hr.len
  have : m.params.size = ps.length := by rw [← q4]; simp
  simp; omega
 ·refine roundIn_of_wpIn (F := Fn rd) trivial ?_
  show m.assign.wpIn (Fn (some b)) 0 P _ _ w
  have hps : ∀ p ∈ m.params.toList, p < m.tmps.size := by rw [qN]; exact qp
  obtain ⟨z1, z2⟩ := Ji0 m.params.toList args t m.tmps cargs hr hps qt
  rw [← Jng] at z1 z2
  rw [← q5] at hx1
  refine hc (some id) m.assign _ st _ fr1 st1 hx1 N g _ w _ (some b) (.some _ _ _ _ hb) qa ⟨by rw [z1]; exact qN, .nil, hgl, ?_⟩ hi ?_
  ·rw [← q4]; exact z2
  ·intro g1 a1 w1 f1 i1 e1
   have b1 := e1.le.box _ _ hb
   obtain ⟨m1, N1, p1, p2, p3, p4, p5, p6, _⟩ := i1.loop hbx1 b1
   have hbeg := run_beginRound (P := P) p1 p2
   obtain ⟨i2, e2⟩ := i1.putLoop hbx1 b1 p1 .busy pend1
   have hsame : ({ m1 with state := .busy } : Loop) = { m1 with state := .busy, pending := pend1 } := by rw [← p3]
   rw [hsame] at hbeg
   refine ⟨_, hbeg, ?_⟩
   have b2 := e2.le.box _ _ b1
   rw [← q6] at hx2
   refine hc (some id) m.body fr1 _ e fr2 st2 hx2 N g1 a1 _ _ (some b) (.some _ _ _ _ b2) qb f1 i2 ?_
   unfold endRound at h
   split at h
   rotate_left
   ·simp at h
   rename_i s3 pend3 t3 ps3 x3 y3 hbx3
   have fin : ∀ (jump : Option Code) (bv : Bool), bv = jump.isNone → r = .val (.bool bv) (st2.put id (.loop (if jump.isNone then .ready else .done) jump t3 ps3 x3 y3)) → ∀ g3 w3, Inv base g3 st2.abs w3 → Ext base g1 (st1.put id (.loop .busy pend1 t1 ps1 x1 y1)).abs (w1.putObj b (.loop { m1 with state := .busy, pending := pend1 })) g3 st2.abs w3 →
     ∃ v w', (Instr.endRound b jump).run P w3 = .ok v w' ∧ CallPost base g st.abs w r (.returned v) w' := by
    rintro jump bv rfl rfl g3 w3 i3 e3
    have b3 := e3.le.box _ _ b2
    obtain ⟨m3, N3, r1, r2, r3, _⟩ := i3.loop hbx3 b3
    have hend := run_endRound (P := P) jump r1
    obtain ⟨i4, e4⟩ := i3.putLoop hbx3 b3 r1 (if jump.isNone then .ready else .done) jump
    exact ⟨_, _, hend, g3, _, rfl, .bool _, i4, ((e1.trans e2).trans e3).trans e4⟩
   cases e with
   | normal =>
    intro g3 a3 w3 f3 i3 e3
    simp only [Res.call.injEq] at h
    exact fin none true rfl h.symm g3 w3 i3 e3
   | ret =>
    intro g3 a3 w3 f3 i3 e3
    simp only [Res.call.injEq] at h
    exact fin (some .ret) false rfl h.symm g3 w3 i3 e3
   | exit z =>
    intro g3 a3 w3 f3 i3 e3
    simp only [Res.call.injEq] at h
    exact fin (some (.exit z)) false rfl h.symm g3 w3 i3 e3
   | panic v => simp at h
section
variable {P : Program} {Q : Exit → Act → List Frame → World → Prop} {a : Act} {cs : List Frame} {w : World}
theorem Ji1 [Memo] {id : Nat} {c : Code} (h : c.wpSIn (Fn none) 0 P (fun e a cs w => match e with
  | .exit id' => if id' = id then Q .normal a cs w else Q (.exit id') a cs w
  | e => Q e a cs w) a cs w) : (Code.block id c).wpSIn (Fn none) 0 P Q a cs w := by
 intro b k hb hro hF hroom
 have h0 : (lone (b.atR a (.code (.block id c) :: k)) cs w).fenced P (Fn none) := Ji5 rfl
 obtain ⟨e, a₁, cs₁, w₁, hl, hq, harr⟩ := h b (.inBlock id :: k) hb hro hF hroom
 cases e with
 | normal => exact ⟨.normal, a₁, cs₁, w₁, hl, hq, .head h0 stepR_block (StepsIn.trans harr (.one (Ji5 rfl) stepR_inBlock))⟩
 | exit id' =>
  by_cases hid : id' = id
  ·simp only [hid, if_true] at hq
   exact ⟨.normal, a₁, cs₁, w₁, hl, hq, .head h0 stepR_block (harr.1 k (by simp [exitTo, hid]))⟩
  ·simp only [hid, if_false] at hq
   have this : (id == id') = false := by simp; exact fun h => hid h.symm
   have hx : exitTo id' (.inBlock id :: k) = exitTo id' k := by simp [exitTo, this]
   exact ⟨.exit id', a₁, cs₁, w₁, hl, hq, fun k' hk => .head h0 stepR_block (harr.1 k' (by rw [hx]; exact hk)),
    fun hr' hk => let ⟨k₁, h1, h2⟩ := harr.2 hr' (by rw [hx]; exact hk); ⟨k₁, h1, .head h0 stepR_block h2⟩⟩
 | goto l =>
  have hx : gotoIn l (.inBlock id :: k) = gotoIn l k := by simp [gotoIn]
  exact ⟨_, a₁, cs₁, w₁, hl, hq, fun k' hk => .head h0 stepR_block (harr.1 k' (by rw [hx]; exact hk)),
   fun hr' hk => let ⟨k₁, h1, h2⟩ := harr.2 hr' (by rw [hx]; exact hk); ⟨k₁, h1, .head h0 stepR_block h2⟩⟩
 | ret => exact ⟨_, a₁, cs₁, w₁, hl, hq, .of_steps (.one h0 stepR_block) harr⟩
 | panic ch => exact ⟨_, a₁, cs₁, w₁, hl, hq, .of_steps (.one h0 stepR_block) harr⟩
 | outgrown => exact ⟨_, a₁, cs₁, w₁, hl, hq, .of_steps (.one h0 stepR_block) harr⟩
theorem Ji2 [Memo] {c : Code} (h : c.wpSIn (Fn none) 0 P (fun e a cs w => match e with
  | .goto _ => False
  | e => Q e a cs w) a cs w) : (Code.scope c).wpSIn (Fn none) 0 P Q a cs w := by
 intro b k hb hro hF hroom
 have h0 : (lone (b.atR a (.code (.scope c) :: k)) cs w).fenced P (Fn none) := Ji5 rfl
 obtain ⟨e, a₁, cs₁, w₁, hl, hq, harr⟩ := h b (.inScope c :: k) hb hro hF hroom
 cases e with
 | normal => exact ⟨.normal, a₁, cs₁, w₁, hl, hq, .head h0 Jaa (StepsIn.trans harr (.one (Ji5 rfl) JdC))⟩
 | exit id => exact ⟨.exit id, a₁, cs₁, w₁, hl, hq, fun k' hk => .head h0 Jaa (harr.1 k' (by rw [Jbr]; exact hk)), fun hr' hk => let ⟨k₁, h1, h2⟩ := harr.2 hr' (by rw [Jbr]; exact hk); ⟨k₁, h1, .head h0 Jaa h2⟩⟩
 | goto l => exact hq.elim
 | ret => exact ⟨_, a₁, cs₁, w₁, hl, hq, .of_steps (.one h0 Jaa) harr⟩
 | panic ch => exact ⟨_, a₁, cs₁, w₁, hl, hq, .of_steps (.one h0 Jaa) harr⟩
 | outgrown => exact ⟨_, a₁, cs₁, w₁, hl, hq, .of_steps (.one h0 Jaa) harr⟩
end
def below (c₀ : Frame) (u : FrameMode) (cs : List Frame) : List Frame := { c₀ with mode := u } :: cs
def DPost [Memo] (base : Nat) (g : Gh) (s : SS) (w : World) (N : Nat) (c₀ : Frame) (cs : List Frame) (Q : Exit → Act → List Frame → World → Prop) (fr' : Fr) (m' : Md) (st' : St) (e : AE) : Prop :=
 ∀ g' a' w' u', FR g' N fr' a' → MR g' m' u' → Inv base g' st'.abs w' → Ext base g s w g' st'.abs w' →
  match e with
  | .normal => Q .normal a' (below c₀ u' cs) w'
  | .exit id => Q (.exit id) a' (below c₀ u' cs) w'
  | .ret => Q .ret a' (below c₀ u' cs) w'
  | .panic v => ∀ c, R g' v c → Q (.panic [{ v := c, recovered := false }]) a' (below c₀ u' cs) w'
theorem DPost.trans [Memo] {base : Nat} {g g1 : Gh} {s s1 : SS} {w w1 : World} {N : Nat} {c₀ : Frame} {cs : List Frame} {Q : Exit → Act → List Frame → World → Prop} {fr' : Fr} {m' : Md} {st' : St} {e : AE} (hE : Ext base g s w g1 s1 w1)
  (h : DPost base g s w N c₀ cs Q fr' m' st' e) : DPost base g1 s1 w1 N c₀ cs Q fr' m' st' e :=
 fun g' a' w' u' h1 h2 h3 h4 => h g' a' w' u' h1 h2 h3 (hE.trans h4)
def JfD [Memo] (P : Program) (base n : Nat) : Prop :=
 ∀ c fr m st e fr' m' st', X P n (.dcode c fr m) st = .dcode e fr' m' st' → ∀ N g a w c₀ cs u Q, Qg N c = true → FR g N fr a → Inv base g st.abs w → MR g m u →
  DPost base g st.abs w N c₀ cs Q fr' m' st' e → c.wpSIn (Fn none) 0 P Q a (below c₀ u cs) w
theorem Jj8 {g : Gh} {m : Md} {u : FrameMode} (hm : MR g m u) (c₀ : Frame) (cs : List Frame) :
  (∃ c u', recoverD (below c₀ u cs) = some (c, below c₀ u' cs) ∧ R g (Jcy m).1 c ∧ MR g (Jcy m).2 u') ∨ (recoverD (below c₀ u cs) = none ∧ (Jcy m).1 = .nili ∧ (Jcy m).2 = m) := by
 cases hm with
 | ret => exact .inr ⟨rfl, rfl, rfl⟩
 | pan v c h => exact .inl ⟨c, _, rfl, h, .got _ _ h⟩
 | got v c h => exact .inr ⟨rfl, rfl, rfl⟩
theorem Ji3 [Memo] {P : Program} {base : Nat} {ops : Array Oper} {N : Nat} (hd : ∀ o ∈ ops.toList, Jcz N o = true) {c₀ : Frame} {cs : List Frame} {Q : Exit → Act → List Frame → World → Prop} {fr' : Fr} {m' : Md} {st' : St} :
  ∀ (l : List Oper) (is : List Nat), is.map (fun i => ops[i]?) = l.map some → (∀ o ∈ l, o ∈ ops.toList) → ∀ {g : Gh} {st : St} {w : World} {fr : Fr} {m : Md} {a : Act} {u : FrameMode}, Inv base g st.abs w → FR g N fr a → MR g m u →
   Jej P ops l fr m st = .ok fr' m' st' → DPost base g st.abs w N c₀ cs Q fr' m' st' .normal → wpOpsSIn (Fn none) 0 P ops Q is a (below c₀ u cs) w
 | [], is, hl, _, g, st, w, fr, m, a, u, hi, hf, hm, hx, hp => by
  have : is = [] := by simpa using hl
  subst this
  simp only [Jej, ORS.ok.injEq] at hx
  obtain ⟨rfl, rfl, rfl⟩ := hx
  exact hp g a w u hf hm hi (Ext.refl _ _ _ _)
 | o :: r, is, hl, hmem, g, st, w, fr, m, a, u, hi, hf, hm, hx, hp => by
  cases is with
  | nil => simp at hl
  | cons i is =>
   simp only [List.map_cons, List.cons.injEq] at hl
   obtain ⟨hio, hl⟩ := hl
   have hdo := hd o (hmem o (by simp))
   have rec_ := fun {g st w fr m a u} => @Ji3 _ P base ops N hd c₀ cs Q fr' m' st' r is hl (fun o ho => hmem o (by simp [ho])) g st w fr m a u
   simp only [wpOpsSIn, hio, JdR hf]
   refine ⟨fun _ _ => trivial, ?_⟩
   simp only [Jej] at hx
   have gives : ∀ {v : V} {st1 : St}, Gives P base g st.abs w ((execOp a.eval o).run P w) v st1.abs → Jej P ops r (Fr.to fr o.dst v) m st1 = .ok fr' m' st' →
     (match (execOp a.eval o).run P w with
     | .ok .recover w' => (match recoverD (below c₀ u cs) with
      | some (v, cs') => wpOpsSIn (Fn none) 0 P ops Q is (a.put o.dst v) cs' w'
      | none => wpOpsSIn (Fn none) 0 P ops Q is (a.put o.dst .nilIface) (below c₀ u cs) w')
     | .ok (.value v) w' => wpOpsSIn (Fn none) 0 P ops Q is (a.put o.dst v) (below c₀ u cs) w'
     | .ok .skip w' => wpOpsSIn (Fn none) 0 P ops Q is (a.put o.dst Go.undef) (below c₀ u cs) w'
     | .halt (.panic v) w' => Q (.panic [{ v, recovered := false }]) a (below c₀ u cs) w'
     | _ => False) := by
    intro v st1 hg hx1
    obtain ⟨g', c, w', h1, h2, h3, h4⟩ := hg
    rcases h1 with h1 | ⟨h1, rfl⟩
    ·rw [h1]
     exact rec_ h3 ((hf.mono h4.le).to hdo h2) (hm.mono h4.le) hx1 (hp.trans h4)
    ·rw [h1]
     exact rec_ h3 ((hf.mono h4.le).to hdo h2) (hm.mono h4.le) hx1 (hp.trans h4)
   split at hx
   ·rename_i hw
    simp only [hw, if_true]
    split at hx
    ·rename_i hrec
     have hrun : (execOp a.eval o).run P w = .ok .recover w := by
      unfold JeT at hrec
      split at hrec
      ·rename_i args ts ho
       obtain ⟨dst, op, type, pos, after, guard⟩ := o
       simp only at ho
       subst ho
       simp [execOp, resolve, invoke, builtin]
      ·simp at hrec
     rw [hrun]
     rcases Jj8 hm c₀ cs with ⟨c, u', h1, h2, h3⟩ | ⟨h1, h2, h3⟩
     ·simp only [h1]
      exact rec_ hi (hf.to hdo h2) h3 hx hp
     ·simp only [h1]
      rw [h2, h3] at hx
      exact rec_ hi (hf.to hdo .nili) hm hx hp
    ·split at hx
     ·split at hx
      ·rename_i v st1 hv
       exact gives (JiP hi hf o hv) hx
      ·simp at hx
     ·rename_i hk
      split at hx
      ·rename_i v st1 hv
       refine gives ?_ hx
       unfold vop at hv
       split at hv
       ·split at hv
        ·rename_i v' hv'
         simp only [ER.val.injEq] at hv
         obtain ⟨rfl, rfl⟩ := hv
         exact JbW hi hf o hv'
        ·simp at hv
       ·split at hv
        ·rename_i v' hv'
         simp only [ER.val.injEq] at hv
         obtain ⟨rfl, rfl⟩ := hv
         exact JbW hi hf o hv'
        ·simp at hv
       ·split at hv
        ·rename_i cs1 e1 n1 hcs
         split at hv
         ·simp only [ER.val.injEq] at hv
          obtain ⟨rfl, rfl⟩ := hv
          obtain ⟨l1, c1, h1, h2, h3⟩ := JdQ hf o hcs w
          obtain ⟨g', j1, j2, j3⟩ := hi.newObj (JcR h2 e1)
          exact ⟨g', c1, _, .inl h1, h3 g' _ _ j3, j1, j2⟩
         ·simp at hv
        ·simp at hv
       ·rename_i hke
        exact absurd hke hk
      ·simp at hx
   ·rename_i hw
    simp only [hw, Bool.false_eq_true, if_false]
    exact rec_ hi (hf.to hdo (R.undef g)) hm hx hp
theorem Jj9 [Memo] {P : Program} {base n : Nat} (hc : Jda P base n) (hd : JfD P base n) : JfD P base (n + 1) := by
 intro c fr m st e fr' m' st' hx N g a w c₀ cs u Q hs hf hi hm hp
 simp only [X, Jek, body] at hx
 split at hx
 ·split at hx
  ·rename_i e1 fr1 st1 hx1
   simp only [Res.dcode.injEq] at hx
   obtain ⟨rfl, rfl, rfl, rfl⟩ := hx
   refine wpSIn_of_wpIn rfl (hc none c fr st e1 fr1 st1 hx1 N g a w _ none .none hs hf hi ?_)
   cases e1 with
   | normal => exact fun g' a' w' h1 h2 h3 => hp g' a' w' u h1 (hm.mono h3.le) h2 h3
   | exit id => exact fun g' a' w' h1 h2 h3 => hp g' a' w' u h1 (hm.mono h3.le) h2 h3
   | ret => exact fun g' a' w' h1 h2 h3 => hp g' a' w' u h1 (hm.mono h3.le) h2 h3
   | panic v => exact fun g' a' w' c h1 hr h2 h3 => hp g' a' w' u h1 (hm.mono h3.le) h2 h3 c hr
  ·simp at hx
  ·simp at hx
 ·split at hx
  ·rename_i x y hrc
   simp only [Qg, Bool.and_eq_true] at hs
   refine wpSIn_seq ?_
   cases hx1 : X P n (.dcode x fr m) st with
   | dcode e1 fr1 m1 st1 =>
    rw [hx1] at hx
    refine hd x fr m st e1 fr1 m1 st1 hx1 N g a w c₀ cs u _ hs.1 hf hi hm ?_
    cases e1 with
    | normal =>
     intro g1 a1 w1 u1 f1 m1' i1 x1
     exact hd y fr1 m1 st1 e fr' m' st' hx N g1 a1 w1 c₀ cs u1 Q hs.2 f1 i1 m1' (hp.trans x1)
    | exit id =>
     simp only [Res.dcode.injEq] at hx
     obtain ⟨rfl, rfl, rfl, rfl⟩ := hx
     exact hp
    | ret =>
     simp only [Res.dcode.injEq] at hx
     obtain ⟨rfl, rfl, rfl, rfl⟩ := hx
     exact hp
    | panic v =>
     simp only [Res.dcode.injEq] at hx
     obtain ⟨rfl, rfl, rfl, rfl⟩ := hx
     exact hp
   | _ => rw [hx1] at hx; simp at hx
  ·rename_i t x y hrc
   simp only [Qg, Bool.and_eq_true] at hs
   split at hx
   ·rename_i ht
    have hr := QN hf ht
    cases hcc : a.eval t <;> rw [hcc] at hr <;> cases hr
    exact wpSIn_cond (t := true) hcc (hd x fr m st e fr' m' st' hx N g a w c₀ cs u Q hs.1 hf hi hm hp)
   ·rename_i ht
    have hr := QN hf ht
    cases hcc : a.eval t <;> rw [hcc] at hr <;> cases hr
    exact wpSIn_cond (t := false) hcc (hd y fr m st e fr' m' st' hx N g a w c₀ cs u Q hs.2 hf hi hm hp)
   ·simp at hx
  ·rename_i id x hrc
   simp only [Qg] at hs
   refine Ji1 ?_
   cases hx1 : X P n (.dcode x fr m) st with
   | dcode e1 fr1 m1 st1 =>
    rw [hx1] at hx
    refine hd x fr m st e1 fr1 m1 st1 hx1 N g a w c₀ cs u _ hs hf hi hm ?_
    cases e1 with
    | normal =>
     simp only [Res.dcode.injEq] at hx
     obtain ⟨rfl, rfl, rfl, rfl⟩ := hx
     exact hp
    | exit id' =>
     simp only at hx
     split at hx
     ·rename_i hid
      have hid := Nat.eq_of_beq_eq_true hid
      simp only [Res.dcode.injEq] at hx
      obtain ⟨rfl, rfl, rfl, rfl⟩ := hx
      intro g1 a1 w1 u1 f1 m1' i1 x1
      simp only [hid, if_true]
      exact hp g1 a1 w1 u1 f1 m1' i1 x1
     ·rename_i hid
      have hne : ¬ id' = id := fun e => by subst e; rw [Nat.beq_refl] at hid; simp at hid
      simp only [Res.dcode.injEq] at hx
      obtain ⟨rfl, rfl, rfl, rfl⟩ := hx
      intro g1 a1 w1 u1 f1 m1' i1 x1
      simp only [hne, if_false]
      exact hp g1 a1 w1 u1 f1 m1' i1 x1
    | ret =>
     simp only [Res.dcode.injEq] at hx
     obtain ⟨rfl, rfl, rfl, rfl⟩ := hx
     exact hp
    | panic v =>
     simp only [Res.dcode.injEq] at hx
     obtain ⟨rfl, rfl, rfl, rfl⟩ := hx
     exact hp
   | _ => rw [hx1] at hx; simp at hx
  ·rename_i x hrc
   simp only [Qg] at hs
   refine Ji2 (hd x fr m st e fr' m' st' hx N g a w c₀ cs u _ hs hf hi hm ?_)
   cases e <;> exact hp
  ·rename_i id ops hrc
   simp only [Qg] at hs
   have hdst : ∀ o ∈ ops.toList, Jcz N o = true := List.all_eq_true.1 hs
   split at hx
   ·rename_i fr1 m1 st1 hr
    simp only [Res.dcode.injEq] at hx
    obtain ⟨rfl, rfl, rfl, rfl⟩ := hx
    exact wpSIn_region (Ji3 hdst ops.toList _ (Jhr ops) (fun o ho => ho) hi hf hm hr hp)
   ·simp at hx
  ·simp at hx
theorem Jka [Memo] {P : Program} {base n : Nat} (hd : JfD P base n) : Jeu P base (n + 1) := by
 intro gl f args m st m' st' hx g w cargs u hgl hi hr hm
 simp only [X, Jek, body] at hx
 split at hx
 ·simp at hx
 rename_i fn hfn
 split at hx
 ·simp at hx
 rename_i c hb
 split at hx
 ·simp at hx
 rename_i hok
 obtain ⟨h1, h2⟩ := Jav hok
 have h1 := Nat.le_of_ble_eq_true h1
 split at hx
 rotate_left
 ·simp at hx
 ·simp at hx
 rename_i e fr1 m1 st1 hx1
 have fin : ∀ vs, Jd (Jv P fr1 st1) fn.results.toList = some vs → fr1.ds = [] → m1 = m' → st1 = st' → (e = .normal ∨ e = .ret) →
   CallsDIn (Fn none) 0 P f ⟨cargs⟩ u w fun e u' w' => ∃ g' v, e = .returned v ∧ MR g' m' u' ∧ Inv base g' st'.abs w' ∧ Ext base g st.abs w g' st'.abs w' := by
  rintro vs hvs hds rfl rfl he
  refine callsDIn_of_wpSIn hfn hb trivial fun c₀ cs hu => ?_
  have hc0 : below c₀ u cs = c₀ :: cs := by subst hu; rfl
  rw [← hc0]
  refine hd c _ m st e fr1 m1 st1 hx1 fn.ntmps g _ w c₀ cs u _ h2 (JkS hgl hr h1) hi hm ?_
  intro g' a' w' u' f1 mm i1 x1
  obtain ⟨cv, q1, q2⟩ := Jfj i1 f1.at_ hvs
  have hdef : a'.defers = [] := by
   have := f1.defers
   rw [hds] at this
   generalize a'.defers = ds at this
   cases this
   rfl
  rcases he with rfl | rfl
  ·exact ⟨hdef, u', rfl, cv, q1, g', cv, rfl, mm, i1, x1⟩
  ·exact ⟨hdef, u', rfl, cv, q1, g', cv, rfl, mm, i1, x1⟩
 split at hx
 ·rename_i hds
  split at hx
  ·rename_i vs hvs
   simp only [Res.dcall.injEq] at hx
   exact fin vs hvs hds hx.1 hx.2 (.inl rfl)
  ·simp at hx
 ·rename_i hds
  split at hx
  ·rename_i vs hvs
   simp only [Res.dcall.injEq] at hx
   exact fin vs hvs hds hx.1 hx.2 (.inr rfl)
  ·simp at hx
 ·simp at hx
theorem Jkb [Memo] {P : Program} {base n : Nat} (hmemo : JdV P base) (hc : Jda P base n) (hd : Jeu P base n) : Jb9 P base (ihCall (X P (n + 1))) := by
 intro gl c args st
 cases c with
 | f f =>
  cases hx : X P (n + 1) (.call gl f args) st with
  | call r =>
   have := Jof hmemo hc hd gl f args st r hx
   unfold ihCall
   simp only [hx]
   cases r with
   | val v st' => exact this
   | panic v st' => exact this
   | fail w => trivial
  | _ => unfold ihCall; simp only [hx]
 | y id =>
  cases hx : X P (n + 1) (.round gl id args) st with
  | call r =>
   have := Jnh hc gl id args st r hx
   unfold ihCall
   simp only [hx]
   cases r with
   | val v st' => exact this
   | panic v st' => exact this
   | fail w => trivial
  | _ => unfold ihCall; simp only [hx]
theorem Jni [Memo] {P : Program} {base : Nat} (hmemo : JdV P base) (hdraw : Jke P base) : ∀ n, Jda P base n ∧ Jkd P base n ∧ Jb9 P base (ihCall (X P n)) ∧ Jeu P base n ∧ JfD P base n
 | 0 => ⟨fun rd c fr st e fr' st' h => by simp [X] at h, fun rd b fr st e fr' st' h => by simp [X] at h, fun gl c args st => by cases c <;> simp [ihCall, X], fun gl f args m st m' st' h => by simp [X] at h, fun c fr m st e fr' m' st' h => by simp [X] at h⟩
 | n + 1 => by
  obtain ⟨h1, h2, h3, h4, h5⟩ := Jni hmemo hdraw n
  exact ⟨Jk1 hdraw h1 h2 h3, fun rd b fr st e fr' st' hx N g a w Q brd hrd hs hf hi hp => JgH h1 h2 (by simp only [X, Jek, body] at hx; exact hx) hrd hs hf hi hp, Jkb hmemo h1 h4, Jka h5, Jj9 h1 h5⟩
end Go.Vm
