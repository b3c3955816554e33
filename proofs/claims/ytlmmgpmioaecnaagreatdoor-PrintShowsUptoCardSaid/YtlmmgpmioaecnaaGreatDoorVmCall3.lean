/- Rounds; deferred calls; all together. -/
import Derived.Test.YtlmmgpmioaecnaaGreatDoorVmCall2
namespace Go.Vm
open Go Go.RowKit
theorem Jit {g : Gh} : ∀ (ps : List Tmp) (vs : List V) (t : Tr V) (tmps : Array Value) (cs : List Value), Rs g vs cs → (∀ p ∈ ps, p < tmps.size) → (∀ k, R g (t.at k) (tmps.getD k Go.undef)) →
  ((ps.zip cs).foldl (fun (tmps : Array Value) (p : Tmp × Value) => tmps.setIfInBounds p.1 p.2) tmps).size = tmps.size ∧
  ∀ k, R g ((JiX ps vs t).at k) (((ps.zip cs).foldl (fun (tmps : Array Value) (p : Tmp × Value) => tmps.setIfInBounds p.1 p.2) tmps).getD k Go.undef)
 | [], vs, t, tmps, cs, _, _, h => ⟨rfl, fun k => by cases vs <;> exact h k⟩
 | p :: ps, [], t, tmps, cs, hr, _, h => by cases hr; exact ⟨rfl, h⟩
 | p :: ps, v :: vs, t, tmps, cs, hr, hp, h => by
  cases hr with
  | cons _ c _ cs hv hs =>
  have hpl := hp p (by simp)
  have key : ∀ k, R g ((t.put p v).at k) ((tmps.setIfInBounds p c).getD k Go.undef) := fun k => by
   have ep : (t.put p v).at k = if k = p then v else t.at k := by
    simp only [Tr.at, Tr.get_put]
    by_cases htd : k = p <;> simp [htd]
   rw [ep]
   by_cases hk : k = p
   ·subst hk
    simp [Array.getD, hpl, hv]
   ·rw [if_neg hk]
    have e2 : (tmps.setIfInBounds p c).getD k Go.undef = tmps.getD k Go.undef := by
     simp only [Array.getD_eq_getD_getElem?]
     rw [Array.getElem?_setIfInBounds_ne (Ne.symm hk)]
    rw [e2]; exact h k
  obtain ⟨h1, h2⟩ := Jit ps vs (t.put p v) (tmps.setIfInBounds p c) cs hs (fun q hq => by simpa using hp q (by simp [hq])) key
  exact ⟨by simpa using h1, h2⟩
theorem JmJ (m : Loop) (cs : List Value) : JfT m ⟨cs⟩ = (m.params.toList.zip cs).foldl (fun (tmps : Array Value) (p : Tmp × Value) => tmps.setIfInBounds p.1 p.2) m.tmps := by
 unfold JfT
 rw [← Array.foldl_toList]
 simp
theorem JmK [Memo] {P : Program} {base n : Nat} (hc : JcU P base n) (gl : Gl) (id : Nat) (args : List V) (st : St) (r : ER) (h : X P (n + 1) (.round gl id args) st = .call r) :
  ∀ g w cargs, GlR g gl → Inv base g st.abs w → Rs g args cargs → JoF P g (.y id) ⟨cargs⟩ w (CallPost base g st.abs w r) := by
 intro g w cargs hgl hi hr
 simp only [X, JdX, body] at h
 split at h
 rotate_left
 ·simp at h
 rename_i s pend t ps x y hbx
 obtain ⟨b, o, bs, _, hb, _⟩ := hi.box id _ hbx
 split at h
 rotate_left
 ·simp at h
 rename_i hlen
 have hlen := Nat.eq_of_beq_eq_true hlen
 obtain ⟨m, N, q1, q2, q3, q4, q5, q6, qN, qt, qa, qb, qp⟩ := hi.loop hbx hb
 split at h
 rotate_left
 ·simp at h
 ·simp at h
 rename_i fr1 st1 hx1
 split at h
 rotate_left
 ·simp at h
 rename_i pend1 t1 ps1 x1 y1 hbx1
 split at h
 rotate_left
 ·simp at h
 ·simp at h
 rename_i e fr2 st2 hx2
 refine ⟨b, o, bs, m, hb, q1, ?_, fun rd => ?_⟩
 ·have := hr.len
  have : m.params.size = ps.length := by rw [← q4]; simp
  simp; omega
 ·refine roundIn_of_wpIn (F := Fn rd) trivial ?_
  show m.assign.wpIn (Fn (some b)) 0 P _ _ w
  have hps : ∀ p ∈ m.params.toList, p < m.tmps.size := by rw [qN]; exact qp
  obtain ⟨z1, z2⟩ := Jit m.params.toList args t m.tmps cargs hr hps qt
  rw [← JmJ] at z1 z2
  rw [← q5] at hx1
  refine hc (some id) m.assign _ st _ fr1 st1 hx1 N g _ w _ (some b) (.some _ _ _ _ hb) qa ⟨by rw [z1]; exact qN, .nil, hgl, ?_⟩ hi ?_
  ·rw [← q4]; exact z2
  ·intro g1 a1 w1 f1 i1 e1
   have b1 := e1.le.box _ _ hb
   obtain ⟨m1, N1, p1, p2, p3, p4, p5, p6, _⟩ := i1.loop hbx1 b1
   have hbeg := run_beginRound (P := P) p1 p2
   obtain ⟨i2, e2⟩ := i1.putLoop hbx1 b1 p1 .busy pend1
   have hsame : ({ m1 with state := .busy } : Loop) = { m1 with state := .busy, pending := pend1 } := by rw [← p3]
   rw [hsame] at hbeg
   refine ⟨_, hbeg, ?_⟩
   have b2 := e2.le.box _ _ b1
   rw [← q6] at hx2
   refine hc (some id) m.body fr1 _ e fr2 st2 hx2 N g1 a1 _ _ (some b) (.some _ _ _ _ b2) qb f1 i2 ?_
   unfold endRound at h
   split at h
   rotate_left
   ·simp at h
   rename_i s3 pend3 t3 ps3 x3 y3 hbx3
   have fin : ∀ (jump : Option Code) (bv : Bool), bv = jump.isNone → r = .val (.bool bv) (st2.put id (.loop (if jump.isNone then .ready else .done) jump t3 ps3 x3 y3)) → ∀ g3 w3, Inv base g3 st2.abs w3 → Ext base g1 (st1.put id (.loop .busy pend1 t1 ps1 x1 y1)).abs (w1.putObj b (.loop { m1 with state := .busy, pending := pend1 })) g3 st2.abs w3 →
     ∃ v w', (Instr.endRound b jump).run P w3 = .ok v w' ∧ CallPost base g st.abs w r (.returned v) w' := by
    rintro jump bv rfl rfl g3 w3 i3 e3
    have b3 := e3.le.box _ _ b2
    obtain ⟨m3, N3, r1, r2, r3, _⟩ := i3.loop hbx3 b3
    have hend := run_endRound (P := P) jump r1
    obtain ⟨i4, e4⟩ := i3.putLoop hbx3 b3 r1 (if jump.isNone then .ready else .done) jump
    exact ⟨_, _, hend, g3, _, rfl, .bool _, i4, ((e1.trans e2).trans e3).trans e4⟩
   cases e with
   | normal =>
    intro g3 a3 w3 f3 i3 e3
    simp only [Res.call.injEq] at h
    exact fin none true rfl h.symm g3 w3 i3 e3
   | ret =>
    intro g3 a3 w3 f3 i3 e3
    simp only [Res.call.injEq] at h
    exact fin (some .ret) false rfl h.symm g3 w3 i3 e3
   | exit z =>
    intro g3 a3 w3 f3 i3 e3
    simp only [Res.call.injEq] at h
    exact fin (some (.exit z)) false rfl h.symm g3 w3 i3 e3
   | panic v => simp at h
section
variable {P : Program} {Q : Exit → Act → List Frame → World → Prop} {a : Act} {cs : List Frame} {w : World}
theorem Jiu [Memo] {id : Nat} {c : Code} (h : c.wpSIn (Fn none) 0 P (fun e a cs w => match e with
  | .exit id' => if id' = id then Q .normal a cs w else Q (.exit id') a cs w
  | e => Q e a cs w) a cs w) : (Code.block id c).wpSIn (Fn none) 0 P Q a cs w := by
 intro b k hb hro hF hroom
 have h0 : (lone (b.atR a (.code (.block id c) :: k)) cs w).fenced P (Fn none) := JhZ rfl
 obtain ⟨e, a₁, cs₁, w₁, hl, hq, harr⟩ := h b (.inBlock id :: k) hb hro hF hroom
 cases e with
 | normal => exact ⟨.normal, a₁, cs₁, w₁, hl, hq, .head h0 stepR_block (StepsIn.trans harr (.one (JhZ rfl) stepR_inBlock))⟩
 | exit id' =>
  by_cases hid : id' = id
  ·simp only [hid, if_true] at hq
   exact ⟨.normal, a₁, cs₁, w₁, hl, hq, .head h0 stepR_block (harr.1 k (by simp [exitTo, hid]))⟩
  ·simp only [hid, if_false] at hq
   have this : (id == id') = false := by simp; exact fun h => hid h.symm
   have hx : exitTo id' (.inBlock id :: k) = exitTo id' k := by simp [exitTo, this]
   exact ⟨.exit id', a₁, cs₁, w₁, hl, hq, fun k' hk => .head h0 stepR_block (harr.1 k' (by rw [hx]; exact hk)),
    fun hr' hk => let ⟨k₁, h1, h2⟩ := harr.2 hr' (by rw [hx]; exact hk); ⟨k₁, h1, .head h0 stepR_block h2⟩⟩
 | goto l =>
  have hx : gotoIn l (.inBlock id :: k) = gotoIn l k := by simp [gotoIn]
  exact ⟨_, a₁, cs₁, w₁, hl, hq, fun k' hk => .head h0 stepR_block (harr.1 k' (by rw [hx]; exact hk)),
   fun hr' hk => let ⟨k₁, h1, h2⟩ := harr.2 hr' (by rw [hx]; exact hk); ⟨k₁, h1, .head h0 stepR_block h2⟩⟩
 | ret => exact ⟨_, a₁, cs₁, w₁, hl, hq, .of_steps (.one h0 stepR_block) harr⟩
 | panic ch => exact ⟨_, a₁, cs₁, w₁, hl, hq, .of_steps (.one h0 stepR_block) harr⟩
 | outgrown => exact ⟨_, a₁, cs₁, w₁, hl, hq, .of_steps (.one h0 stepR_block) harr⟩
theorem Jiv [Memo] {c : Code} (h : c.wpSIn (Fn none) 0 P (fun e a cs w => match e with
  | .goto _ => False
  | e => Q e a cs w) a cs w) : (Code.scope c).wpSIn (Fn none) 0 P Q a cs w := by
 intro b k hb hro hF hroom
 have h0 : (lone (b.atR a (.code (.scope c) :: k)) cs w).fenced P (Fn none) := JhZ rfl
 obtain ⟨e, a₁, cs₁, w₁, hl, hq, harr⟩ := h b (.inScope c :: k) hb hro hF hroom
 cases e with
 | normal => exact ⟨.normal, a₁, cs₁, w₁, hl, hq, .head h0 QL (StepsIn.trans harr (.one (JhZ rfl) Jdq))⟩
 | exit id => exact ⟨.exit id, a₁, cs₁, w₁, hl, hq, fun k' hk => .head h0 QL (harr.1 k' (by rw [Ja8]; exact hk)), fun hr' hk => let ⟨k₁, h1, h2⟩ := harr.2 hr' (by rw [Ja8]; exact hk); ⟨k₁, h1, .head h0 QL h2⟩⟩
 | goto l => exact hq.elim
 | ret => exact ⟨_, a₁, cs₁, w₁, hl, hq, .of_steps (.one h0 QL) harr⟩
 | panic ch => exact ⟨_, a₁, cs₁, w₁, hl, hq, .of_steps (.one h0 QL) harr⟩
 | outgrown => exact ⟨_, a₁, cs₁, w₁, hl, hq, .of_steps (.one h0 QL) harr⟩
end
def below (c₀ : Frame) (u : FrameMode) (cs : List Frame) : List Frame := { c₀ with mode := u } :: cs
def DPost [Memo] (base : Nat) (g : Gh) (s : SS) (w : World) (N : Nat) (c₀ : Frame) (cs : List Frame) (Q : Exit → Act → List Frame → World → Prop) (fr' : Fr) (m' : Md) (st' : St) (e : AE) : Prop :=
 ∀ g' a' w' u', FR g' N fr' a' → MR g' m' u' → Inv base g' st'.abs w' → Ext base g s w g' st'.abs w' →
  match e with
  | .normal => Q .normal a' (below c₀ u' cs) w'
  | .exit id => Q (.exit id) a' (below c₀ u' cs) w'
  | .ret => Q .ret a' (below c₀ u' cs) w'
  | .panic v => ∀ c, R g' v c → Q (.panic [{ v := c, recovered := false }]) a' (below c₀ u' cs) w'
theorem DPost.trans [Memo] {base : Nat} {g g1 : Gh} {s s1 : SS} {w w1 : World} {N : Nat} {c₀ : Frame} {cs : List Frame} {Q : Exit → Act → List Frame → World → Prop} {fr' : Fr} {m' : Md} {st' : St} {e : AE} (hE : Ext base g s w g1 s1 w1)
  (h : DPost base g s w N c₀ cs Q fr' m' st' e) : DPost base g1 s1 w1 N c₀ cs Q fr' m' st' e :=
 fun g' a' w' u' h1 h2 h3 h4 => h g' a' w' u' h1 h2 h3 (hE.trans h4)
def Jfg [Memo] (P : Program) (base n : Nat) : Prop :=
 ∀ c fr m st e fr' m' st', X P n (.dcode c fr m) st = .dcode e fr' m' st' → ∀ N g a w c₀ cs u Q, JV N c = true → FR g N fr a → Inv base g st.abs w → MR g m u →
  DPost base g st.abs w N c₀ cs Q fr' m' st' e → c.wpSIn (Fn none) 0 P Q a (below c₀ u cs) w
theorem Jjs {g : Gh} {m : Md} {u : FrameMode} (hm : MR g m u) (c₀ : Frame) (cs : List Frame) :
  (∃ c u', recoverD (below c₀ u cs) = some (c, below c₀ u' cs) ∧ R g (Jcj m).1 c ∧ MR g (Jcj m).2 u') ∨ (recoverD (below c₀ u cs) = none ∧ (Jcj m).1 = .nili ∧ (Jcj m).2 = m) := by
 cases hm with
 | ret => exact .inr ⟨rfl, rfl, rfl⟩
 | pan v c h => exact .inl ⟨c, _, rfl, h, .got _ _ h⟩
 | got v c h => exact .inr ⟨rfl, rfl, rfl⟩
theorem Jiw [Memo] {P : Program} {base : Nat} {ops : Array Oper} {N : Nat} (hd : ∀ o ∈ ops.toList, Jck N o = true) {c₀ : Frame} {cs : List Frame} {Q : Exit → Act → List Frame → World → Prop} {fr' : Fr} {m' : Md} {st' : St} :
  ∀ (l : List Oper) (is : List Nat), is.map (fun i => ops[i]?) = l.map some → (∀ o ∈ l, o ∈ ops.toList) → ∀ {g : Gh} {st : St} {w : World} {fr : Fr} {m : Md} {a : Act} {u : FrameMode}, Inv base g st.abs w → FR g N fr a → MR g m u →
   JdW P ops l fr m st = .ok fr' m' st' → DPost base g st.abs w N c₀ cs Q fr' m' st' .normal → wpOpsSIn (Fn none) 0 P ops Q is a (below c₀ u cs) w
 | [], is, hl, _, g, st, w, fr, m, a, u, hi, hf, hm, hx, hp => by
  have : is = [] := by simpa using hl
  subst this
  simp only [JdW, ORS.ok.injEq] at hx
  obtain ⟨rfl, rfl, rfl⟩ := hx
  exact hp g a w u hf hm hi (Ext.refl _ _ _ _)
 | o :: r, is, hl, hmem, g, st, w, fr, m, a, u, hi, hf, hm, hx, hp => by
  cases is with
  | nil => simp at hl
  | cons i is =>
   simp only [List.map_cons, List.cons.injEq] at hl
   obtain ⟨hio, hl⟩ := hl
   have hdo := hd o (hmem o (by simp))
   have rec_ := fun {g st w fr m a u} => @Jiw _ P base ops N hd c₀ cs Q fr' m' st' r is hl (fun o ho => hmem o (by simp [ho])) g st w fr m a u
   simp only [wpOpsSIn, hio, JdH hf]
   refine ⟨fun _ _ => trivial, ?_⟩
   simp only [JdW] at hx
   have gives : ∀ {v : V} {st1 : St}, Gives P base g st.abs w ((execOp a.eval o).run P w) v st1.abs → JdW P ops r (Fr.to fr o.dst v) m st1 = .ok fr' m' st' →
     (match (execOp a.eval o).run P w with
     | .ok .recover w' => (match recoverD (below c₀ u cs) with
      | some (v, cs') => wpOpsSIn (Fn none) 0 P ops Q is (a.put o.dst v) cs' w'
      | none => wpOpsSIn (Fn none) 0 P ops Q is (a.put o.dst .nilIface) (below c₀ u cs) w')
     | .ok (.value v) w' => wpOpsSIn (Fn none) 0 P ops Q is (a.put o.dst v) (below c₀ u cs) w'
     | .ok .skip w' => wpOpsSIn (Fn none) 0 P ops Q is (a.put o.dst Go.undef) (below c₀ u cs) w'
     | .halt (.panic v) w' => Q (.panic [{ v, recovered := false }]) a (below c₀ u cs) w'
     | _ => False) := by
    intro v st1 hg hx1
    obtain ⟨g', c, w', h1, h2, h3, h4⟩ := hg
    rcases h1 with h1 | ⟨h1, rfl⟩
    ·rw [h1]
     exact rec_ h3 ((hf.mono h4.le).to hdo h2) (hm.mono h4.le) hx1 (hp.trans h4)
    ·rw [h1]
     exact rec_ h3 ((hf.mono h4.le).to hdo h2) (hm.mono h4.le) hx1 (hp.trans h4)
   split at hx
   ·rename_i hw
    simp only [hw, if_true]
    split at hx
    ·rename_i hrec
     have hrun : (execOp a.eval o).run P w = .ok .recover w := by
      unfold Jeq at hrec
      split at hrec
      ·rename_i args ts ho
       obtain ⟨dst, op, type, pos, after, guard⟩ := o
       simp only at ho
       subst ho
       simp [execOp, resolve, invoke, builtin]
      ·simp at hrec
     rw [hrun]
     rcases Jjs hm c₀ cs with ⟨c, u', h1, h2, h3⟩ | ⟨h1, h2, h3⟩
     ·simp only [h1]
      exact rec_ hi (hf.to hdo h2) h3 hx hp
     ·simp only [h1]
      rw [h2, h3] at hx
      exact rec_ hi (hf.to hdo .nili) hm hx hp
    ·split at hx
     ·split at hx
      ·rename_i v st1 hv
       exact gives (Jif hi hf o hv) hx
      ·simp at hx
     ·rename_i hk
      split at hx
      ·rename_i v st1 hv
       refine gives ?_ hx
       unfold vop at hv
       split at hv
       ·split at hv
        ·rename_i v' hv'
         simp only [ER.val.injEq] at hv
         obtain ⟨rfl, rfl⟩ := hv
         exact JbJ hi hf o hv'
        ·simp at hv
       ·split at hv
        ·rename_i v' hv'
         simp only [ER.val.injEq] at hv
         obtain ⟨rfl, rfl⟩ := hv
         exact JbJ hi hf o hv'
        ·simp at hv
       ·split at hv
        ·rename_i cs1 e1 n1 hcs
         split at hv
         ·simp only [ER.val.injEq] at hv
          obtain ⟨rfl, rfl⟩ := hv
          obtain ⟨l1, c1, h1, h2, h3⟩ := JdG hf o hcs w
          obtain ⟨g', j1, j2, j3⟩ := hi.newObj (JcH h2 e1)
          exact ⟨g', c1, _, .inl h1, h3 g' _ _ j3, j1, j2⟩
         ·simp at hv
        ·simp at hv
       ·rename_i hke
        exact absurd hke hk
      ·simp at hx
   ·rename_i hw
    simp only [hw, Bool.false_eq_true, if_false]
    exact rec_ hi (hf.to hdo (R.undef g)) hm hx hp
theorem Jjt [Memo] {P : Program} {base n : Nat} (hc : JcU P base n) (hd : Jfg P base n) : Jfg P base (n + 1) := by
 intro c fr m st e fr' m' st' hx N g a w c₀ cs u Q hs hf hi hm hp
 simp only [X, JdX, body] at hx
 split at hx
 ·split at hx
  ·rename_i e1 fr1 st1 hx1
   simp only [Res.dcode.injEq] at hx
   obtain ⟨rfl, rfl, rfl, rfl⟩ := hx
   refine wpSIn_of_wpIn rfl (hc none c fr st e1 fr1 st1 hx1 N g a w _ none .none hs hf hi ?_)
   cases e1 with
   | normal => exact fun g' a' w' h1 h2 h3 => hp g' a' w' u h1 (hm.mono h3.le) h2 h3
   | exit id => exact fun g' a' w' h1 h2 h3 => hp g' a' w' u h1 (hm.mono h3.le) h2 h3
   | ret => exact fun g' a' w' h1 h2 h3 => hp g' a' w' u h1 (hm.mono h3.le) h2 h3
   | panic v => exact fun g' a' w' c h1 hr h2 h3 => hp g' a' w' u h1 (hm.mono h3.le) h2 h3 c hr
  ·simp at hx
  ·simp at hx
 ·split at hx
  ·rename_i x y hrc
   simp only [JV, Bool.and_eq_true] at hs
   refine wpSIn_seq ?_
   cases hx1 : X P n (.dcode x fr m) st with
   | dcode e1 fr1 m1 st1 =>
    rw [hx1] at hx
    refine hd x fr m st e1 fr1 m1 st1 hx1 N g a w c₀ cs u _ hs.1 hf hi hm ?_
    cases e1 with
    | normal =>
     intro g1 a1 w1 u1 f1 m1' i1 x1
     exact hd y fr1 m1 st1 e fr' m' st' hx N g1 a1 w1 c₀ cs u1 Q hs.2 f1 i1 m1' (hp.trans x1)
    | exit id =>
     simp only [Res.dcode.injEq] at hx
     obtain ⟨rfl, rfl, rfl, rfl⟩ := hx
     exact hp
    | ret =>
     simp only [Res.dcode.injEq] at hx
     obtain ⟨rfl, rfl, rfl, rfl⟩ := hx
     exact hp
    | panic v =>
     simp only [Res.dcode.injEq] at hx
     obtain ⟨rfl, rfl, rfl, rfl⟩ := hx
     exact hp
   | _ => rw [hx1] at hx; simp at hx
  ·rename_i t x y hrc
   simp only [JV, Bool.and_eq_true] at hs
   split at hx
   ·rename_i ht
    have hr := Qh hf ht
    cases hcc : a.eval t <;> rw [hcc] at hr <;> cases hr
    exact wpSIn_cond (t := true) hcc (hd x fr m st e fr' m' st' hx N g a w c₀ cs u Q hs.1 hf hi hm hp)
   ·rename_i ht
    have hr := Qh hf ht
    cases hcc : a.eval t <;> rw [hcc] at hr <;> cases hr
    exact wpSIn_cond (t := false) hcc (hd y fr m st e fr' m' st' hx N g a w c₀ cs u Q hs.2 hf hi hm hp)
   ·simp at hx
  ·rename_i id x hrc
   simp only [JV] at hs
   refine Jiu ?_
   cases hx1 : X P n (.dcode x fr m) st with
   | dcode e1 fr1 m1 st1 =>
    rw [hx1] at hx
    refine hd x fr m st e1 fr1 m1 st1 hx1 N g a w c₀ cs u _ hs hf hi hm ?_
    cases e1 with
    | normal =>
     simp only [Res.dcode.injEq] at hx
     obtain ⟨rfl, rfl, rfl, rfl⟩ := hx
     exact hp
    | exit id' =>
     simp only at hx
     split at hx
     ·rename_i hid
      have hid := Nat.eq_of_beq_eq_true hid
      simp only [Res.dcode.injEq] at hx
      obtain ⟨rfl, rfl, rfl, rfl⟩ := hx
      intro g1 a1 w1 u1 f1 m1' i1 x1
      simp only [hid, if_true]
      exact hp g1 a1 w1 u1 f1 m1' i1 x1
     ·rename_i hid
      have hne : ¬ id' = id := fun e => by subst e; rw [Nat.beq_refl] at hid; simp at hid
      simp only [Res.dcode.injEq] at hx
      obtain ⟨rfl, rfl, rfl, rfl⟩ := hx
      intro g1 a1 w1 u1 f1 m1' i1 x1
      simp only [hne, if_false]
      exact hp g1 a1 w1 u1 f1 m1' i1 x1
    | ret =>
     simp only [Res.dcode.injEq] at hx
     obtain ⟨rfl, rfl, rfl, rfl⟩ := hx
     exact hp
    | panic v =>
     simp only [Res.dcode.injEq] at hx
     obtain ⟨rfl, rfl, rfl, rfl⟩ := hx
     exact hp
   | _ => rw [hx1] at hx; simp at hx
  ·rename_i x hrc
   simp only [JV] at hs
   refine Jiv (hd x fr m st e fr' m' st' hx N g a w c₀ cs u _ hs hf hi hm ?_)
   cases e <;> exact hp
  ·rename_i id ops hrc
   simp only [JV] at hs
   have hdst : ∀ o ∈ ops.toList, Jck N o = true := List.all_eq_true.1 hs
   split at hx
   ·rename_i fr1 m1 st1 hr
    simp only [Res.dcode.injEq] at hx
    obtain ⟨rfl, rfl, rfl, rfl⟩ := hx
    exact wpSIn_region (Jiw hdst ops.toList _ (JgC ops) (fun o ho => ho) hi hf hm hr hp)
   ·simp at hx
  ·simp at hx
theorem Jju [Memo] {P : Program} {base n : Nat} (hd : Jfg P base n) : JdL P base (n + 1) := by
 intro gl f args m st m' st' hx g w cargs u hgl hi hr hm
 simp only [X, JdX, body] at hx
 split at hx
 ·simp at hx
 rename_i fn hfn
 split at hx
 ·simp at hx
 rename_i c hb
 split at hx
 ·simp at hx
 rename_i hok
 obtain ⟨h1, h2⟩ := Jah hok
 have h1 := Nat.le_of_ble_eq_true h1
 split at hx
 rotate_left
 ·simp at hx
 ·simp at hx
 rename_i e fr1 m1 st1 hx1
 have fin : ∀ vs, Jc (Jw P fr1 st1) fn.results.toList = some vs → fr1.ds = [] → m1 = m' → st1 = st' → (e = .normal ∨ e = .ret) →
   CallsDIn (Fn none) 0 P f ⟨cargs⟩ u w fun e u' w' => ∃ g' v, e = .returned v ∧ MR g' m' u' ∧ Inv base g' st'.abs w' ∧ Ext base g st.abs w g' st'.abs w' := by
  rintro vs hvs hds rfl rfl he
  refine callsDIn_of_wpSIn hfn hb trivial fun c₀ cs hu => ?_
  have hc0 : below c₀ u cs = c₀ :: cs := by subst hu; rfl
  rw [← hc0]
  refine hd c _ m st e fr1 m1 st1 hx1 fn.ntmps g _ w c₀ cs u _ h2 (JjO hgl hr h1) hi hm ?_
  intro g' a' w' u' f1 mm i1 x1
  obtain ⟨cv, q1, q2⟩ := JeB i1 f1.at_ hvs
  have hdef : a'.defers = [] := by
   have := f1.defers
   rw [hds] at this
   generalize a'.defers = ds at this
   cases this
   rfl
  rcases he with rfl | rfl
  ·exact ⟨hdef, u', rfl, cv, q1, g', cv, rfl, mm, i1, x1⟩
  ·exact ⟨hdef, u', rfl, cv, q1, g', cv, rfl, mm, i1, x1⟩
 split at hx
 ·rename_i hds
  split at hx
  ·rename_i vs hvs
   simp only [Res.dcall.injEq] at hx
   exact fin vs hvs hds hx.1 hx.2 (.inl rfl)
  ·simp at hx
 ·rename_i hds
  split at hx
  ·rename_i vs hvs
   simp only [Res.dcall.injEq] at hx
   exact fin vs hvs hds hx.1 hx.2 (.inr rfl)
  ·simp at hx
 ·simp at hx
theorem Jjv [Memo] {P : Program} {base n : Nat} (hmemo : Jdw P base) (hc : JcU P base n) (hd : JdL P base n) : JbR P base (ihCall (X P (n + 1))) := by
 intro gl c args st
 cases c with
 | f f =>
  cases hx : X P (n + 1) (.call gl f args) st with
  | call r =>
   have := Jnd hmemo hc hd gl f args st r hx
   unfold ihCall
   simp only [hx]
   cases r with
   | val v st' => exact this
   | panic v st' => exact this
   | fail w => trivial
  | _ => unfold ihCall; simp only [hx]
 | y id =>
  cases hx : X P (n + 1) (.round gl id args) st with
  | call r =>
   have := JmK hc gl id args st r hx
   unfold ihCall
   simp only [hx]
   cases r with
   | val v st' => exact this
   | panic v st' => exact this
   | fail w => trivial
  | _ => unfold ihCall; simp only [hx]
theorem JmL [Memo] {P : Program} {base : Nat} (hmemo : Jdw P base) (hdraw : Ji1 P base) : ∀ n, JcU P base n ∧ Ji0 P base n ∧ JbR P base (ihCall (X P n)) ∧ JdL P base n ∧ Jfg P base n
 | 0 => ⟨fun rd c fr st e fr' st' h => by simp [X] at h, fun rd b fr st e fr' st' h => by simp [X] at h, fun gl c args st => by cases c <;> simp [ihCall, X], fun gl f args m st m' st' h => by simp [X] at h, fun c fr m st e fr' m' st' h => by simp [X] at h⟩
 | n + 1 => by
  obtain ⟨h1, h2, h3, h4, h5⟩ := JmL hmemo hdraw n
  exact ⟨JkN hdraw h1 h2 h3, fun rd b fr st e fr' st' hx N g a w Q brd hrd hs hf hi hp => JfC h1 h2 (by simp only [X, JdX, body] at hx; exact hx) hrd hs hf hi hp, Jjv hmemo h1 h4, Jju h5, Jjt h1 h5⟩
end Go.Vm
