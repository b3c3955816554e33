/- Regions that draw: each operation, and the end. -/
import Derived.Test.YtlmmgpmioaecnaaGreatDoorVmDraw3
namespace Go.Vm
open Go Go.RowKit
section
variable {P : Program} {ih : CallF} {ops : Array Oper} {b : List Nat} {c0 : Nat} {l : List Nat} {D : Nat → Drw} {base N : Nat} {g0 : Gh} {s0 : SS} {w0 : World}
def Pse (P : Program) (ops : Array Oper) (l : List Nat) (ps : Nat) : Prop := ps = 0 ∨ ∃ i, 0 < ps ∧ l[ps - 1]? = some i ∧ isE P ops i = true
theorem XA.notE {q id : Nat} {cs : Bx} (h : XA P ops c0 l D q id cs) {i : Nat} (hl : l[q]? = some i) : isE P ops i = false := by
 obtain ⟨i', o, q1, q2, q3, _⟩ := h
 have : i' = i := by rw [hl] at q1; simpa using q1.symm
 subst this
 rw [Jf8 q2, q3]; rfl
theorem J.act [Memo] (pl : Pl P ops b l) {li : Array Bool} {p : Nat} {g : Gh} {s : SS} {fr : Fr} {a : Act} {w : World} (j : J P ops b c0 l D base N g0 s0 w0 li p g s fr a w) {i : Nat} {o : Oper}
  (hp : l[p]? = some i) (ho : ops[i]? = some o) (hE : isE P ops i = true) (hanc : ∀ k, bit b i k → li.getD k false = true) (hdst : Jck N o = true)
  {v : V} (hv : (D (p + 1)).fr = Fr.to (D p).fr o.dst v) {g' : Gh} {c : Value} {w' : World} (hr : R g' v c) (hi' : Inv base g' (D (p + 1)).st.abs w') (hx : Ext base g (D p).st.abs w g' (D (p + 1)).st.abs w') :
  J P ops b c0 l D base N g0 s0 w0 (li.setIfInBounds i true) (p + 1) g' (s.join (D p).st.abs (D (p + 1)).st.abs) (Fr.to fr o.dst v) (a.put o.dst c) w' := by
 obtain ⟨k1, k2, k3, k4⟩ := j.frame pl hp ho hanc hv
 have hi : i < li.size := by rw [j.lsz]; exact pl.lt p i hp
 have hplt : p < l.length := (List.getElem?_eq_some_iff.1 hp).1
 obtain ⟨m1, m2⟩ := j.inv.join j.sub hi' hx
 have hctr : (D p).st.ctr ≤ (D (p + 1)).st.ctr := hx.ctr
 have keep : ∀ k, k < ops.size → (D p).st.box.get (c0 + k) = none → (D (p + 1)).st.box.get (c0 + k) = none ∧ g'.box (c0 + k) = g.box (c0 + k) := fun k hk hn =>
  hx.keep (c0 + k) (by show c0 + k < (D p).st.ctr; rw [j.sctr]; have := j.cge; omega) hn
 refine ⟨k1, k2, k3, k4, (j.fra.mono hx.le).to hdst hr, by omega, fun q k hq hl => ?_, fun q k hq hl hEk => ?_, m1, rfl, by rw [Fr.to_gl, Fr.to_ds]; exact j.same, fun id cs h => ?_, fun q k id cs hq hl hk hXA => ?_, fun id cs h => ?_, fun k hk hn => ?_, fun q k hq hl => ?_, ?_, j.ext.trans m2⟩
 ·rw [Qq hi]
  split
  ·rfl
  ·have : q ≠ p := fun e => by subst e; rw [hp] at hl; simp at hl; exact absurd hl.symm ‹_›
   exact hanc k (pl.act p i q k hp hE (by omega) hl)
 ·rw [Qq hi, if_neg (fun e => by subst e; have := pl.nodup q p k hl hp; omega)]
  exact j.h2 q k (by omega) hl hEk
 ·show (match (D (p + 1)).st.box.get id with | some cs => some cs | none => _) = some cs
  rw [h]
 ·have hki : k ≠ i := fun e => by subst e; have := pl.nodup q p k hl hp; omega
  rw [Qq hi, if_neg hki] at hk
  have h1 := j.s2 q k id cs (by omega) hl hk hXA
  have hXA' := hXA
  obtain ⟨k', o', q1, _, _, _, q2, _⟩ := hXA'
  have : k' = k := by rw [hl] at q1; simpa using q1.symm
  subst this
  subst q2
  have hn := j.fresh q k' (by omega) hl
  have := (keep k' (pl.lt q k' hl) hn).1
  show (match (D (p + 1)).st.box.get (c0 + k') with | some cs => some cs | none => match (D p).st.box.get (c0 + k') with | none => s.box (c0 + k') | some _ => none) = some cs
  rw [this, hn]; exact h1
 ·have h : (match (D (p + 1)).st.box.get id with | some cs => some cs | none => match (D p).st.box.get id with | none => s.box id | some _ => none) = some cs := h
  cases h1 : (D (p + 1)).st.box.get id with
  | some c1 => rw [h1] at h; exact .inl h
  | none =>
   rw [h1] at h
   cases h2 : (D p).st.box.get id with
   | some c2 => rw [h2] at h; simp at h
   | none =>
    rw [h2] at h
    rcases j.s3 id cs h with h | ⟨q, k, q1, q2, q3, q4⟩
    ·rw [h2] at h; simp at h
    ·by_cases hqp : q = p
     ·subst hqp
      have := q4.notE q2
      have hk : k = i := by rw [hp] at q2; simpa using q2.symm
      subst hk
      rw [hE] at this; simp at this
     ·exact .inr ⟨q, k, by omega, q2, by rw [Qq hi]; split; rfl; exact q3, q4⟩
 ·rw [Qq hi] at hn
  split at hn
  ·simp at hn
  ·obtain ⟨a1, a2⟩ := j.g1 k hk hn
   have hu : (D p).st.box.get (c0 + k) = none := by
    cases h : (D p).st.box.get (c0 + k) with
    | none => rfl
    | some cs => rw [j.s1 _ _ h] at a2; simp at a2
   obtain ⟨b1, b2⟩ := keep k hk hu
   refine ⟨by rw [b2]; exact a1, ?_⟩
   show (match (D (p + 1)).st.box.get (c0 + k) with | some cs => some cs | none => match (D p).st.box.get (c0 + k) with | none => s.box (c0 + k) | some _ => none) = none
   rw [b1, hu]; exact a2
 ·exact (keep k (pl.lt q k hl) (j.fresh q k (by omega) hl)).1
 ·show c0 + ops.size ≤ (D (p + 1)).st.ctr
  have := j.cge
  have := j.sctr
  omega
theorem J.quiet [Memo] (pl : Pl P ops b l) {li : Array Bool} {ps p : Nat} {g : Gh} {s : SS} {fr : Fr} {a : Act} {w : World} (j : J P ops b c0 l D base N g0 s0 w0 li ps g s fr a w) {i : Nat} {o : Oper}
  (hp : l[p]? = some i) (ho : ops[i]? = some o) (hE : isE P ops i = false) (hni : li.getD i false = false) (hnA : ∀ id cs, ¬ XA P ops c0 l D p id cs) (hanc : ∀ k, bit b i k → li.getD k false = true) (hdst : Jck N o = true)
  {v : V} (hv : (D (p + 1)).fr = Fr.to (D p).fr o.dst v) {g' : Gh} {c : Value} {w' : World} (hr : R g' v c) (hi' : Inv base g' (D ps).st.abs w') (hx : Ext base g (D ps).st.abs w g' (D ps).st.abs w') :
  J P ops b c0 l D base N g0 s0 w0 (li.setIfInBounds i true) ps g' (s.join (D ps).st.abs (D ps).st.abs) (Fr.to fr o.dst v) (a.put o.dst c) w' := by
 obtain ⟨k1, k2, k3, k4⟩ := j.frame pl hp ho hanc hv
 have hi : i < li.size := by rw [j.lsz]; exact pl.lt p i hp
 obtain ⟨m1, m2⟩ := j.inv.join j.sub hi' hx
 have jb : ∀ id, (s.join (D ps).st.abs (D ps).st.abs).box id = s.box id := fun id => by
  show (match (D ps).st.box.get id with | some cs => some cs | none => match (D ps).st.box.get id with | none => s.box id | some _ => none) = s.box id
  cases h : (D ps).st.box.get id with
  | none => rfl
  | some cs => exact (j.s1 id cs h).symm
 refine ⟨k1, k2, k3, k4, (j.fra.mono hx.le).to hdst hr, j.psle, fun q k hq hl => ?_, fun q k hq hl hEk => ?_, m1, rfl, by rw [Fr.to_gl, Fr.to_ds]; exact j.same, fun id cs h => by rw [jb]; exact j.s1 id cs h, fun q k id cs hq hl hk hXA => ?_, fun id cs h => ?_, fun k hk hn => ?_, j.fresh,
  by show c0 + ops.size ≤ (D ps).st.ctr; rw [j.sctr]; exact j.cge, j.ext.trans m2⟩
 ·rw [Qq hi]; split; rfl; exact j.h1 q k hq hl
 ·rw [Qq hi, if_neg (fun e => by subst e; rw [hE] at hEk; simp at hEk)]
  exact j.h2 q k hq hl hEk
 ·rw [jb]
  rw [Qq hi] at hk
  split at hk
  ·rename_i h
   subst h
   have := pl.nodup q p k hl hp
   subst this
   exact absurd hXA (hnA id cs)
  ·exact j.s2 q k id cs hq hl hk hXA
 ·rw [jb] at h
  rcases j.s3 id cs h with h | ⟨q, k, q1, q2, q3, q4⟩
  ·exact .inl h
  ·exact .inr ⟨q, k, q1, q2, by rw [Qq hi]; split; rfl; exact q3, q4⟩
 ·rw [Qq hi] at hn
  split at hn
  ·simp at hn
  ·obtain ⟨a1, a2⟩ := j.g1 k hk hn
   have := m2.keep (c0 + k) (by have := j.cge; omega) a2
   exact ⟨by rw [this.2]; exact a1, this.1⟩
theorem J.new [Memo] (pl : Pl P ops b l) (hc0 : s0.ctr ≤ c0) {li : Array Bool} {ps p : Nat} {g : Gh} {s : SS} {fr : Fr} {a : Act} {w : World} (j : J P ops b c0 l D base N g0 s0 w0 li ps g s fr a w) {i : Nat} {o : Oper}
  (hp : l[p]? = some i) (hps : ps ≤ p) (ho : ops[i]? = some o) (hE : isE P ops i = false) (hni : li.getD i false = false) (hanc : ∀ k, bit b i k → li.getD k false = true) (hdst : Jck N o = true)
  (hk : Js P o.op = .a) (hw : Jj ops (D p).fr o = true) {cs : List V} {e : TypeId} {n : Option (Nat × Nat)} (hcs : Jv P (D p).fr o.op = some (cs, e, n))
  (hv : (D (p + 1)).fr = Fr.to (D p).fr o.dst (JM (c0 + i) n)) {lv : List Value} (hr : Rs g cs lv) {c : Value} (hc : ∀ g' id bs, g'.box id = some (w.heap.size, 0, bs) → R g' (JM id n) c) :
  ∃ g', J P ops b c0 l D base N g0 s0 w0 (li.setIfInBounds i true) ps g' { (s.putBox (c0 + i) (.cells cs e true (some 0))) with ctr := s.ctr } (Fr.to fr o.dst (JM (c0 + i) n)) (a.put o.dst c) (w.alloc (.cells ⟨lv⟩ e)) := by
 obtain ⟨k1, k2, k3, k4⟩ := j.frame pl hp ho hanc hv
 have hin : i < ops.size := pl.lt p i hp
 have hi : i < li.size := by rw [j.lsz]; exact hin
 obtain ⟨a1, a2⟩ := j.g1 i hin hni
 have hcge := j.cge
 obtain ⟨g', n1, n2, n3, n4, n5⟩ := j.inv.newBox (c0 + i) a1 a2 (JcH hr e) s.ctr (Nat.le_refl _) (by omega)
 have sb : ∀ id, ({ (s.putBox (c0 + i) (.cells cs e true (some 0))) with ctr := s.ctr } : SS).box id = if id = c0 + i then some (.cells cs e true (some 0)) else s.box id := fun _ => rfl
 refine ⟨g', k1, k2, k3, k4, (j.fra.mono n2).to hdst (hc g' _ _ n4), j.psle, fun q k hq hl => ?_, fun q k hq hl hEk => ?_, n1, j.sctr, by rw [Fr.to_gl, Fr.to_ds]; exact j.same, fun id ks h => ?_, fun q k id ks hq hl hkk hXA => ?_, fun id ks h => ?_, fun k hk' hn => ?_, j.fresh, hcge,
  ⟨j.ext.le.trans n2, j.ext.ctr, j.ext.below.alloc (Nat.le_trans j.inv.size (Nat.le_refl _)) _, fun b' hb' ho' => ?_, fun b' hb' ho' => j.ext.noth b' hb' (n3 b' (Nat.lt_of_lt_of_le hb' j.ext.below.size) ho'), fun k hk' hn => ?_⟩⟩
 ·rw [Qq hi]; split; rfl; exact j.h1 q k hq hl
 ·rw [Qq hi, if_neg (fun e => by subst e; rw [hE] at hEk; simp at hEk)]
  exact j.h2 q k hq hl hEk
 ·rw [sb, if_neg (fun e => by subst e; rw [j.fresh p i hps hp] at h; simp at h)]
  exact j.s1 id ks h
 ·rw [sb]
  rw [Qq hi] at hkk
  have hXA' := hXA
  obtain ⟨k', o', q1, q2, q3, q4, q5, cs1, e1, n1', q6, q7⟩ := hXA'
  have : k' = k := by rw [hl] at q1; simpa using q1.symm
  subst this
  split at hkk
  ·rename_i h
   subst h
   have := pl.nodup q p k' hl hp
   subst this
   have : o' = o := by rw [ho] at q2; simpa using q2.symm
   subst this
   rw [hcs] at q6
   simp only [Option.some.injEq, Prod.mk.injEq] at q6
   obtain ⟨rfl, rfl, _⟩ := q6
   rw [if_pos q5, q7]
  ·rename_i h
   rw [if_neg (by omega)]
   exact j.s2 q k' id ks hq hl hkk hXA
 ·rw [sb] at h
  split at h
  ·rename_i hid
   simp only [Option.some.injEq] at h
   subst h
   exact .inr ⟨p, i, hps, hp, by rw [Qq hi, if_pos rfl], i, o, hp, ho, hk, hw, hid, cs, e, n, hcs, rfl⟩
  ·rcases j.s3 id ks h with h | ⟨q, k, q1, q2, q3, q4⟩
   ·exact .inl h
   ·exact .inr ⟨q, k, q1, q2, by rw [Qq hi]; split; rfl; exact q3, q4⟩
 ·rw [Qq hi] at hn
  split at hn
  ·simp at hn
  ·rename_i hki
   obtain ⟨b1, b2⟩ := j.g1 k hk' hn
   exact ⟨by rw [n5 _ (by omega)]; exact b1, by rw [sb, if_neg (by omega)]; exact b2⟩
 ·rw [Below.heap_alloc w _ b' (Nat.lt_of_lt_of_le hb' j.ext.below.size)]
  exact j.ext.own b' hb' ho'
 ·obtain ⟨b1, b2⟩ := j.ext.keep k hk' hn
  have hne : k ≠ c0 + i := by omega
  exact ⟨by rw [sb, if_neg hne]; exact b1, (n5 k hne).trans b2⟩
theorem JdF {o : Op} (h : Js P o ≠ .e) : Jo o = false := by
 cases o <;> simp [Jo, Js] at h ⊢
theorem Jla {fr : Fr} {st : St} {o : Op} {v : V} {st' : St} (h : J6 P ih fr st o = .val v st') : Jo o = false := by
 cases o <;> first | rfl | (simp [J6, Qe] at h)
theorem JnB [Memo] (pl : Pl P ops b l) (hD : ∀ (p i : Nat), l[p]? = some i → Qk P ih ops b c0 i (D p) = some (D (p + 1))) (hih : JbR P base ih) (hc0 : s0.ctr ≤ c0) (h0 : ∃ k, (D 0).snaps = [(k, (D 0).st)])
  {li : Array Bool} {ps p : Nat} {g : Gh} {s : SS} {fr : Fr} {a : Act} {w : World} (j : J P ops b c0 l D base N g0 s0 w0 li ps g s fr a w) (hpse : Pse P ops l ps) {i : Nat} {o : Oper}
  (hp : l[p]? = some i) (ho : ops[i]? = some o) (hni : li.getD i false = false) (hanc : ∀ k, bit b i k → li.getD k false = true) (hdst : Jck N o = true) {K : Act → World → Prop} {Q : Exit → Act → World → Prop}
  (hK : ∀ ps' g' s' fr' a' w', Pse P ops l ps' → J P ops b c0 l D base N g0 s0 w0 (li.setIfInBounds i true) ps' g' s' fr' a' w' → K a' w') {rd : Option Nat} : wpOpIn (Fn rd) 0 P ops Q i K a w := by
 have hlk := j.looks pl hD hp ho hni hanc
 have hpl0 : p ≤ l.length := Nat.le_of_lt (List.getElem?_eq_some_iff.1 hp).1
 have hgl : fr.gl = (D p).fr.gl := by rw [j.same.1, (JjN hD p hpl0).1]
 have hplt : p < l.length := (List.getElem?_eq_some_iff.1 hp).1
 have hps : ps ≤ p := by
  rcases Nat.lt_or_ge p ps with h | h
  ·have := j.h1 p i h hp; rw [this] at hni; simp at hni
  ·exact h
 obtain ⟨o', ho', sp⟩ := Jcq (hD p i hp)
 have : o' = o := by rw [ho] at ho'; simpa using ho'.symm
 subst this
 have hEk := Jf8 (P := P) ho
 have hwant := Jgg hlk
 unfold wpOpIn
 simp only [ho, JdH j.fra]
 have adv : isE P ops i = true → J P ops b c0 l D base N g0 s0 w0 li p g s fr a w := fun hE => j.advance pl hD hps (by omega) (fun q k q1 q2 q3 => hanc k (pl.act p i q k hp hE q2 q3))
 have pse' : isE P ops i = true → Pse P ops l (p + 1) := fun hE => .inr ⟨i, by omega, by simpa using hp, hE⟩
 cases sp with
 | off hw h =>
  rw [← hwant] at hw
  simp only [hw, Bool.false_eq_true, if_false]
  refine ⟨fun _ _ => trivial, ?_⟩
  have hv : (D (p + 1)).fr = Fr.to (D p).fr o'.dst .undef := by rw [h]
  have hst : (D (p + 1)).st = (D p).st := by rw [h]
  by_cases hE : isE P ops i = true
  ·have j2 := adv hE
   exact hK _ _ _ _ _ _ (pse' hE) (j2.act pl hp ho hE hanc hdst hv (R.undef g) (by rw [hst]; exact j2.inv.sub j2.sub) (by rw [hst]; exact Ext.refl _ _ _ _))
  ·have hE : isE P ops i = false := by simpa using hE
   refine hK _ _ _ _ _ _ hpse (j.quiet pl hp ho hE hni (fun id cs hX => ?_) hanc hdst hv (R.undef g) (j.inv.sub j.sub) (Ext.refl _ _ _ _))
   obtain ⟨i', o2, q1, q2, q3, q4, _⟩ := hX
   have : i' = i := by rw [hp] at q1; simpa using q1.symm
   subst this
   have : o2 = o' := by rw [ho] at q2; simpa using q2.symm
   subst this
   rw [← hwant] at q4
   rw [hw] at q4; simp at q4
 | p hw hk v hv h =>
  rw [← hwant] at hw
  simp only [hw, if_true]
  have hfr : (D (p + 1)).fr = Fr.to (D p).fr o'.dst v := by rw [h]
  have hE : isE P ops i = false := by rw [hEk, hk]; rfl
  have h1 : Jy P fr (D ps).st o'.op = some v := by
   rw [JeP (Jd4 hgl hlk), JnM hk (st' := (D p).st)]; exact hv
  obtain ⟨g', c, w', q1, q2, q3, q4⟩ := JbJ (j.inv.sub j.sub) j.fra o' h1
  refine JaZ (JdF (by rw [hk]; simp)) ?_
  have goal : K (a.put o'.dst c) w' := hK _ _ _ _ _ _ hpse (j.quiet pl hp ho hE hni (fun id cs hX => by
   obtain ⟨i', o2, r1, r2, r3, _⟩ := hX
   have : i' = i := by rw [hp] at r1; simpa using r1.symm
   subst this
   have : o2 = o' := by rw [ho] at r2; simpa using r2.symm
   subst this
   rw [hk] at r3; simp at r3) hanc hdst hfr q2 q3 q4)
  rcases q1 with q1 | ⟨q1, rfl⟩
  ·rw [q1]; exact goal
  ·rw [q1]; exact goal
 | r hw hk v hv h =>
  rw [← hwant] at hw
  simp only [hw, if_true]
  have hfr : (D (p + 1)).fr = Fr.to (D p).fr o'.dst v := by rw [h]
  have hE : isE P ops i = false := by rw [hEk, hk]; rfl
  have h1 : Jy P fr (D ps).st o'.op = some v := by
   rw [JeP (Jd4 hgl hlk)]
   refine JiH hD hpse h0 p (by omega) hps (fun q k q1 q2 q3 q4 => ?_) hv
   cases hb : (b.getD i 0).testBit k with
   | false => rfl
   | true => have := hanc k hb; rw [j.h2 q k q1 q3 q4] at this; simp at this
  obtain ⟨g', c, w', q1, q2, q3, q4⟩ := JbJ (j.inv.sub j.sub) j.fra o' h1
  refine JaZ (JdF (by rw [hk]; simp)) ?_
  have goal : K (a.put o'.dst c) w' := hK _ _ _ _ _ _ hpse (j.quiet pl hp ho hE hni (fun id cs hX => by
   obtain ⟨i', o2, r1, r2, r3, _⟩ := hX
   have : i' = i := by rw [hp] at r1; simpa using r1.symm
   subst this
   have : o2 = o' := by rw [ho] at r2; simpa using r2.symm
   subst this
   rw [hk] at r3; simp at r3) hanc hdst hfr q2 q3 q4)
  rcases q1 with q1 | ⟨q1, rfl⟩
  ·rw [q1]; exact goal
  ·rw [q1]; exact goal
 | a hw hk cs e n hcs h1 h =>
  have hw0 := hw
  rw [← hwant] at hw
  simp only [hw, if_true]
  have hfr : (D (p + 1)).fr = Fr.to (D p).fr o'.dst (JM (c0 + i) n) := by rw [h]
  have hE : isE P ops i = false := by rw [hEk, hk]; rfl
  have hcs' : Jv P fr o'.op = some (cs, e, n) := by rw [Jhp (Jd4 hgl hlk)]; exact hcs
  obtain ⟨lv, c, q1, q2, q3⟩ := JdG j.fra o' hcs' w
  obtain ⟨g', j'⟩ := j.new pl hc0 hp hps ho hE hni hanc hdst hk hw0 hcs hfr q2 q3
  refine JaZ (JdF (by rw [hk]; simp)) ?_
  rw [q1]
  exact hK _ _ _ _ _ _ hpse j'
 | e hw hk v st' hv h =>
  rw [← hwant] at hw
  simp only [hw, if_true]
  have hE : isE P ops i = true := by rw [hEk, hk]; rfl
  have j2 := adv hE
  have hfr : (D (p + 1)).fr = Fr.to (D p).fr o'.dst v := by rw [h]
  have hst : (D (p + 1)).st = st' := by rw [h]
  refine Jki hih (j2.inv.sub j2.sub) j2.fra o' (Jla hv) ?_
  rw [Jjr hgl (Jd4 hgl hlk), hv]
  intro g' c w' r1 r2 r3
  exact hK _ _ _ _ _ _ (pse' hE) (j2.act pl hp ho hE hanc hdst hfr r1 (by rw [hst]; exact r2) (by rw [hst]; exact r3))
end
end Go.Vm
