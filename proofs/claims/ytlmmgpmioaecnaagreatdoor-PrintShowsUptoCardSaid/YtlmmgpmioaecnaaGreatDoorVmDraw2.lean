/- Regions that draw: the run in any order. -/
import Derived.Test.YtlmmgpmioaecnaaGreatDoorVmDraw
namespace Go.Vm
open Go Go.RowKit
structure SS.sub (u s : SS) : Prop where
 ctr : u.ctr = s.ctr
 box : ∀ i x, u.box i = some x → s.box i = some x
theorem Own.sub {u s : SS} (h : u.sub s) {g : Gh} {b : Nat} (ho : Own g u b) : Own g s b := by
 obtain ⟨i, x, o, bs, h1, h2⟩ := ho
 exact ⟨i, x, o, bs, h.box i x h1, h2⟩
theorem Inv.sub {base : Nat} {g : Gh} {u s : SS} {w : World} (hi : Inv base g s w) (h : u.sub s) : Inv base g u w := by
 refine ⟨hi.size, hi.pub, fun i x hb => hi.box i x (h.box i x hb), hi.boxat, fun i j x y b o bs o' bs' h1 h2 => hi.boxinj i j x y b o bs o' bs' (h.box i x h1) (h.box j y h2), fun k hk => ?_⟩
 obtain ⟨f1, f4⟩ := hi.fresh k (by rw [← h.ctr]; exact hk)
 refine ⟨f1, ?_⟩
 cases hb : u.box k with
 | none => rfl
 | some x => rw [h.box k x hb] at f4; simp at f4
def SS.join (s u u' : SS) : SS :=
 { ctr := u'.ctr, box := fun i => match u'.box i with
  | some x => some x
  | none => match u.box i with
   | none => s.box i
   | some _ => none }
theorem Inv.join {base : Nat} {g g' : Gh} {u u' s : SS} {w w' : World} (hi : Inv base g s w) (hs : u.sub s) (hi' : Inv base g' u' w') (hx : Ext base g u w g' u' w') :
  Inv base g' (s.join u u') w' ∧ Ext base g s w g' (s.join u u') w' := by
 have side : ∀ i x, u.box i = none → s.box i = some x → i < u.ctr := fun i x _ h2 => by
  rcases Nat.lt_or_ge i u.ctr with h | h
  ·exact h
  ·have := (hi.fresh i (by rw [← hs.ctr]; exact h)).2; rw [this] at h2; simp at h2
 have jb : ∀ i x, (s.join u u').box i = some x → u'.box i = some x ∨ (u.box i = none ∧ s.box i = some x ∧ g'.box i = g.box i) := fun i x h => by
  have h : (match u'.box i with | some cs => some cs | none => match u.box i with | none => s.box i | some _ => none) = some x := h
  cases h1 : u'.box i with
  | some c1 => rw [h1] at h; exact .inl h
  | none =>
   rw [h1] at h
   cases h2 : u.box i with
   | some c2 => rw [h2] at h; simp at h
   | none =>
    rw [h2] at h
    exact .inr ⟨rfl, h, (hx.keep i (side i x h2 h) h2).2⟩
 have nown : ∀ i x b o bs, u.box i = none → s.box i = some x → g.box i = some (b, o, bs) → ¬ Own g u b := fun i x b o bs h1 h2 h3 ho => by
  obtain ⟨j, y, o', bs', q1, q2⟩ := ho
  have := hi.boxinj i j x y b o bs o' bs' h2 (hs.box j y q1) h3 q2
  subst this
  rw [h1] at q1; simp at q1
 have mixed : ∀ i j x y b o bs o' bs', u'.box i = some x → u.box j = none → s.box j = some y → g'.box j = g.box j → g'.box i = some (b, o, bs) → g'.box j = some (b, o', bs') → False := fun i j x y b o bs o' bs' h1 h2 h3 h4 h5 h6 => by
  rw [h4] at h6
  have hlt := (hi.boxat j b o' bs' h6).2.1
  exact nown j y b o' bs' h2 h3 h6 (hx.noth b hlt ⟨i, x, o, bs, h1, h5⟩)
 refine ⟨⟨hi'.size, hi'.pub, fun i x h => ?_, hi'.boxat, fun i j x y b o bs o' bs' h1 h2 h3 h4 => ?_, fun k hk => ?_⟩,
  ⟨hx.le, by rw [← hs.ctr]; exact hx.ctr, hx.below, fun b hb ho => hx.own b hb (fun h => ho (h.sub hs)), fun b hb ho => ?_, fun i hi2 hn => ?_⟩⟩
 ·rcases jb i x h with h | ⟨h1, h2, h3⟩
  ·exact hi'.box i x h
  ·obtain ⟨b, o, bs, m, q1, q2, q3⟩ := hi.box i x h2
   have hlt := (Array.getElem?_eq_some_iff.1 q2).1
   exact ⟨b, o, bs, m, by rw [h3]; exact q1, by rw [hx.own b hlt (nown i x b o bs h1 h2 q1)]; exact q2, q3.mono hx.le⟩
 ·rcases jb i x h1 with q1 | ⟨p1, p2, p3⟩
  ·rcases jb j y h2 with q2 | ⟨r1, r2, r3⟩
   ·exact hi'.boxinj i j x y b o bs o' bs' q1 q2 h3 h4
   ·exact (mixed i j x y b o bs o' bs' q1 r1 r2 r3 h3 h4).elim
  ·rcases jb j y h2 with q2 | ⟨r1, r2, r3⟩
   ·exact (mixed j i y x b o' bs' o bs q2 p1 p2 p3 h4 h3).elim
   ·exact hi.boxinj i j x y b o bs o' bs' p2 r2 (by rw [← p3]; exact h3) (by rw [← r3]; exact h4)
 ·obtain ⟨f1, f4⟩ := hi'.fresh k hk
  refine ⟨f1, ?_⟩
  have hk' : u'.ctr ≤ k := hk
  have hks : s.ctr ≤ k := by rw [← hs.ctr]; exact Nat.le_trans hx.ctr hk'
  show (match u'.box k with | some cs => some cs | none => match u.box k with | none => s.box k | some _ => none) = none
  rw [f4]
  cases h2 : u.box k with
  | some c2 => rfl
  | none => exact (hi.fresh k hks).2
 ·obtain ⟨i, x, o, bs, h1, h2⟩ := ho
  rcases jb i x h1 with h | ⟨q1, q2, q3⟩
  ·exact (hx.noth b hb ⟨i, x, o, bs, h, h2⟩).sub hs
  ·exact ⟨i, x, o, bs, q2, by rw [← q3]; exact h2⟩
 ·have hu : u.box i = none := by
   cases h : u.box i with
   | none => rfl
   | some x => rw [hs.box i x h] at hn; simp at hn
  obtain ⟨q1, q2⟩ := hx.keep i (by rw [hs.ctr]; exact hi2) hu
  refine ⟨?_, q2⟩
  show (match u'.box i with | some cs => some cs | none => match u.box i with | none => s.box i | some _ => none) = none
  rw [q1, hu]; exact hn
theorem Fr.to_gl (fr : Fr) (d : Option Tmp) (v : V) : (Fr.to fr d v).gl = fr.gl := by cases d <;> rfl
theorem Fr.to_ds (fr : Fr) (d : Option Tmp) (v : V) : (Fr.to fr d v).ds = fr.ds := by cases d <;> rfl
theorem Fr.at_to (fr : Fr) (d : Option Tmp) (v : V) (t : Nat) : Fr.at (Fr.to fr d v) t = if d = some t then v else Fr.at fr t := by
 cases d with
 | none => rfl
 | some k =>
  simp only [Fr.to, Fr.at, Tr.get_put]
  by_cases h : t = k
  ·subst h; simp
  ·have : ¬ (some k = some t) := fun e => h (by simpa using e.symm)
   simp [h, this]
section
variable {P : Program} {ih : CallF} {ops : Array Oper} {b : List Nat} {c0 : Nat}
inductive Sp (P : Program) (ih : CallF) (ops : Array Oper) (b : List Nat) (c0 i : Nat) (o : Oper) (d d' : Drw) : Prop where
 | off (hw : Jj ops d.fr o = false) (h : d' = { fr := Fr.to d.fr o.dst .undef, st := d.st, snaps := if isE P ops i then (i, d.st) :: d.snaps else d.snaps })
 | p (hw : Jj ops d.fr o = true) (hk : Js P o.op = .p) (v : V) (hv : Jy P d.fr d.st o.op = some v) (h : d' = { d with fr := Fr.to d.fr o.dst v })
 | r (hw : Jj ops d.fr o = true) (hk : Js P o.op = .r) (v : V) (hv : JO P d.fr o.op v (b.getD i 0) d.snaps = true) (h : d' = { d with fr := Fr.to d.fr o.dst v })
 | a (hw : Jj ops d.fr o = true) (hk : Js P o.op = .a) (cs : List V) (e : TypeId) (n : Option (Nat × Nat)) (hv : Jv P d.fr o.op = some (cs, e, n)) (h1 : cs.all Ju = true)
   (h : d' = { fr := Fr.to d.fr o.dst (JM (c0 + i) n), st := { d.st with box := d.st.box.put (c0 + i) (.cells cs e true (some 0)) }, snaps := d.snaps })
 | e (hw : Jj ops d.fr o = true) (hk : Js P o.op = .e) (v : V) (st' : St) (hv : J6 P ih d.fr d.st o.op = .val v st') (h : d' = { fr := Fr.to d.fr o.dst v, st := st', snaps := (i, st') :: d.snaps })
theorem Jf8 {i : Nat} {o : Oper} (ho : ops[i]? = some o) : isE P ops i = (Js P o.op == .e) := by simp [isE, ho]
theorem Jcq {i : Nat} {d d' : Drw} (h : Qk P ih ops b c0 i d = some d') : ∃ o, ops[i]? = some o ∧ Sp P ih ops b c0 i o d d' := by
 unfold Qk at h
 split at h
 rotate_left
 ·simp at h
 rename_i o ho
 refine ⟨o, ho, ?_⟩
 have hE := Jf8 (P := P) ho
 split at h
 ·rename_i hw
  simp only [Option.some.injEq] at h
  refine .off hw (h.symm.trans ?_)
  rw [hE]
  cases hk : Js P o.op <;> simp
 ·rename_i hw
  split at h
  ·rename_i hk
   split at h
   ·rename_i v hv
    simp only [Option.some.injEq] at h
    exact .p hw hk v hv h.symm
   ·simp at h
  ·rename_i hk
   split at h
   ·split at h
    ·rename_i v hv
     split at h
     ·rename_i hs
      simp only [Option.some.injEq] at h
      exact .r hw hk v hs h.symm
     ·simp at h
    ·simp at h
   ·simp at h
  ·rename_i hk
   split at h
   ·rename_i cs e n hv
    split at h
    ·rename_i h1
     simp only [Option.some.injEq] at h
     exact .a hw hk cs e n hv h1 h.symm
    ·simp at h
   ·simp at h
  ·rename_i hk
   split at h
   ·rename_i v st' hv
    simp only [Option.some.injEq] at h
    exact .e hw hk v st' hv h.symm
   ·simp at h
theorem Sp.fr {i : Nat} {o : Oper} {d d' : Drw} (h : Sp P ih ops b c0 i o d d') : ∃ v, d'.fr = Fr.to d.fr o.dst v := by
 cases h with
 | off hw h => exact ⟨_, by rw [h]⟩
 | p hw hk v hv h => exact ⟨_, by rw [h]⟩
 | r hw hk v hv h => exact ⟨_, by rw [h]⟩
 | a hw hk cs e n hv h1 h => exact ⟨_, by rw [h]⟩
 | e hw hk v st' hv h => exact ⟨_, by rw [h]⟩
theorem Sp.snaps {i : Nat} {o : Oper} {d d' : Drw} (ho : ops[i]? = some o) (h : Sp P ih ops b c0 i o d d') : d'.snaps = if isE P ops i then (i, d'.st) :: d.snaps else d.snaps := by
 have hE := Jf8 (P := P) ho
 cases h with
 | off hw h => rw [h]
 | p hw hk v hv h => rw [h, hE, hk]; simp
 | r hw hk v hv h => rw [h, hE, hk]; simp
 | a hw hk cs e n hv h1 h => rw [h, hE, hk]; simp
 | e hw hk v st' hv h => rw [h, hE, hk]; simp
variable {l : List Nat} {D : Nat → Drw} (pl : Pl P ops b l) (hD : ∀ (p i : Nat), l[p]? = some i → Qk P ih ops b c0 i (D p) = some (D (p + 1)))
include pl hD
theorem JjM : ∀ (p : Nat), p ≤ l.length → ∀ (q i : Nat) (o : Oper) (t : Tmp), q < p → l[q]? = some i → ops[i]? = some o → o.dst = some t → Fr.at (D p).fr t = Fr.at (D (q + 1)).fr t
 | 0, _, q, i, o, t, hq, _, _, _ => by omega
 | p + 1, hp, q, i, o, t, hq, hl, ho, hd => by
  by_cases hqp : q = p
  ·subst hqp; rfl
  ·have h1 := JjM p (by omega) q i o t (by omega) hl ho hd
   have hlp : l[p]? = some l[p] := List.getElem?_eq_getElem (by omega)
   obtain ⟨o', ho', sp⟩ := Jcq (hD p _ hlp)
   obtain ⟨v, hv⟩ := sp.fr
   rw [hv, Fr.at_to]
   have hne : i ≠ l[p] := fun e => hqp (pl.nodup q p i hl (by rw [hlp, e]))
   rw [if_neg (pl.dst1 i _ o o' t hne ho ho' hd)]
   exact h1
omit pl in
theorem Jf9 : ∀ (p : Nat), p ≤ l.length → ∀ (t : Tmp), (∀ (q i : Nat) (o : Oper), q < p → l[q]? = some i → ops[i]? = some o → o.dst ≠ some t) → Fr.at (D p).fr t = Fr.at (D 0).fr t
 | 0, _, t, _ => rfl
 | p + 1, hp, t, hn => by
  have h1 := Jf9 p (by omega) t (fun q i o hq => hn q i o (by omega))
  have hlp : l[p]? = some l[p] := List.getElem?_eq_getElem (by omega)
  obtain ⟨o', ho', sp⟩ := Jcq (hD p _ hlp)
  obtain ⟨v, hv⟩ := sp.fr
  rw [hv, Fr.at_to, if_neg (hn p _ o' (by omega) hlp ho')]
  exact h1
omit pl in
theorem JjN : ∀ (p : Nat), p ≤ l.length → (D p).fr.gl = (D 0).fr.gl ∧ (D p).fr.ds = (D 0).fr.ds
 | 0, _ => ⟨rfl, rfl⟩
 | p + 1, hp => by
  have h1 := JjN p (by omega)
  have hlp : l[p]? = some l[p] := List.getElem?_eq_getElem (by omega)
  obtain ⟨o', ho', sp⟩ := Jcq (hD p _ hlp)
  obtain ⟨v, hv⟩ := sp.fr
  rw [hv, Fr.to_gl, Fr.to_ds]
  exact h1
omit pl hD
def XA (P : Program) (ops : Array Oper) (c0 : Nat) (l : List Nat) (D : Nat → Drw) (q id : Nat) (x : Bx) : Prop :=
 ∃ (i : Nat) (o : Oper), l[q]? = some i ∧ ops[i]? = some o ∧ Js P o.op = .a ∧ Jj ops (D q).fr o = true ∧ id = c0 + i ∧ ∃ cs e n, Jv P (D q).fr o.op = some (cs, e, n) ∧ x = .cells cs e true (some 0)
include pl hD
theorem Job (p : Nat) (hfresh : ∀ (q i : Nat), p ≤ q → l[q]? = some i → (D p).st.box.get (c0 + i) = none) : ∀ (m : Nat), p + m ≤ l.length → (∀ (q i : Nat), p ≤ q → q < p + m → l[q]? = some i → isE P ops i = false) →
  (D (p + m)).st.ctr = (D p).st.ctr ∧ ∀ id cs, (D (p + m)).st.box.get id = some cs ↔ ((D p).st.box.get id = some cs ∨ ∃ q, p ≤ q ∧ q < p + m ∧ XA P ops c0 l D q id cs)
 | 0, _, _ => ⟨rfl, fun id cs => ⟨fun h => .inl h, fun h => by rcases h with h | ⟨q, h1, h2, _⟩; exact h; omega⟩⟩
 | m + 1, hm, hE => by
  obtain ⟨e1, e3⟩ := Job p hfresh m (by omega) (fun q i h1 h2 => hE q i h1 (by omega))
  have hlp : l[p + m]? = some l[p + m] := List.getElem?_eq_getElem (by omega)
  obtain ⟨o, ho, sp⟩ := Jcq (hD (p + m) _ hlp)
  have hnE := hE (p + m) _ (by omega) (by omega) hlp
  have hkE := Jf8 (P := P) ho
  rw [hnE] at hkE
  have same : (D (p + m + 1)).st = (D (p + m)).st → ¬ (Js P o.op = .a ∧ Jj ops (D (p + m)).fr o = true) → _ := fun hst hno => (show
   (D (p + (m + 1))).st.ctr = (D p).st.ctr ∧ ∀ id cs, (D (p + (m + 1))).st.box.get id = some cs ↔ ((D p).st.box.get id = some cs ∨ ∃ q, p ≤ q ∧ q < p + (m + 1) ∧ XA P ops c0 l D q id cs) from by
    rw [← Nat.add_assoc, hst]
    refine ⟨e1, fun id cs => ?_⟩
    rw [e3]
    constructor
    ·rintro (h | ⟨q, h1, h2, h3⟩)
     ·exact .inl h
     ·exact .inr ⟨q, h1, by omega, h3⟩
    ·rintro (h | ⟨q, h1, h2, h3⟩)
     ·exact .inl h
     ·by_cases hq : q = p + m
      ·subst hq
       obtain ⟨i, o', q1, q2, q3, q4, _⟩ := h3
       have : i = l[p + m] := by rw [hlp] at q1; simpa using q1.symm
       subst this
       have : o' = o := by rw [ho] at q2; simpa using q2.symm
       subst this
       exact absurd ⟨q3, q4⟩ hno
      ·exact .inr ⟨q, h1, by omega, h3⟩)
  cases sp with
  | off hw h => exact same (by rw [h]) (fun hh => by rw [hw] at hh; simp at hh)
  | p hw hk v hv h => exact same (by rw [h]) (fun hh => by rw [hk] at hh; simp at hh)
  | r hw hk v hv h => exact same (by rw [h]) (fun hh => by rw [hk] at hh; simp at hh)
  | e hw hk v st' hv h => rw [hk] at hkE; simp at hkE
  | a hw hk cs0 e0 n0 hv h1 h =>
   rw [← Nat.add_assoc, h]
   refine ⟨e1, fun id cs => ?_⟩
   show ((D (p + m)).st.box.put (c0 + l[p + m]) (.cells cs0 e0 true (some 0))).get id = some cs ↔ _
   rw [Tr.get_put]
   by_cases hid : id = c0 + l[p + m]
   ·rw [if_pos hid]
    constructor
    ·intro hc
     simp only [Option.some.injEq] at hc
     subst hc
     exact .inr ⟨p + m, by omega, by omega, _, o, hlp, ho, hk, hw, hid, cs0, e0, n0, hv, rfl⟩
    ·rintro (hc | ⟨q, h1, h2, i, o', q1, q2, q3, q4, q5, cs1, e1', n1, q6, rfl⟩)
     ·rw [hid, hfresh (p + m) _ (by omega) hlp] at hc; simp at hc
     ·have hil : i = l[p + m] := by omega
      have hq : q = p + m := pl.nodup q (p + m) i q1 (by rw [hlp, hil])
      subst hq
      subst hil
      have : o' = o := by rw [ho] at q2; simpa using q2.symm
      subst this
      rw [hv] at q6
      simp only [Option.some.injEq, Prod.mk.injEq] at q6
      obtain ⟨rfl, rfl, _⟩ := q6
      rfl
   ·rw [if_neg hid, e3]
    constructor
    ·rintro (hc | ⟨q, h1, h2, h3⟩)
     ·exact .inl hc
     ·exact .inr ⟨q, h1, by omega, h3⟩
    ·rintro (hc | ⟨q, h1, h2, h3⟩)
     ·exact .inl hc
     ·by_cases hq : q = p + m
      ·subst hq
       obtain ⟨i, o', q1, q2, q3, q4, q5, _⟩ := h3
       have : i = l[p + m] := by rw [hlp] at q1; simpa using q1.symm
       exact absurd (by rw [q5, this]) hid
      ·exact .inr ⟨q, h1, by omega, h3⟩
omit pl in
theorem JiH {fr : Fr} {o : Op} {v : V} {m ps : Nat} (hps : ps = 0 ∨ ∃ i, 0 < ps ∧ l[ps - 1]? = some i ∧ isE P ops i = true) (h0 : ∃ k, (D 0).snaps = [(k, (D 0).st)]) :
  ∀ (p : Nat), p ≤ l.length → ps ≤ p → (∀ (q i : Nat), ps ≤ q → q < p → l[q]? = some i → isE P ops i = true → m.testBit i = false) → JO P fr o v m (D p).snaps = true → Jy P fr (D ps).st o = some v
 | 0, _, h1, _, hs => by
  have : ps = 0 := by omega
  subst this
  obtain ⟨k, hk⟩ := h0
  rw [hk] at hs
  simp only [JO, Bool.and_eq_true] at hs
  have h1 := hs.1
  split at h1
  ·rename_i u hu
   rw [hu, JdJ _ _ _ h1]
  ·simp at h1
 | p + 1, hp, h1, hno, hs => by
  have hlp : l[p]? = some l[p] := List.getElem?_eq_getElem (by omega)
  obtain ⟨o', ho', sp⟩ := Jcq (hD p _ hlp)
  rw [sp.snaps ho'] at hs
  have rec_ := fun hle => JiH (fr := fr) (o := o) (v := v) hps h0 p (by omega) hle (fun q i a1 a2 => hno q i a1 (by omega))
  by_cases hE : isE P ops l[p] = true
  ·rw [if_pos hE] at hs
   simp only [JO, Bool.and_eq_true, Bool.or_eq_true] at hs
   by_cases hpp : ps = p + 1
   ·subst hpp
    have h1 := hs.1
    split at h1
    ·rename_i u hu
     rw [hu, JdJ _ _ _ h1]
    ·simp at h1
   ·rcases hs.2 with hb | hs2
    ·have := hno p _ (by omega) (by omega) hlp hE
     rw [this] at hb; simp at hb
    ·exact rec_ (by omega) hs2
  ·rw [if_neg hE] at hs
   by_cases hpp : ps = p + 1
   ·rcases hps with h | ⟨i, hp0, hi, hEi⟩
    ·omega
    ·rw [hpp, Nat.add_sub_cancel, hlp] at hi
     simp only [Option.some.injEq] at hi
     subst hi
     exact absurd hEi hE
   ·exact rec_ (by omega) hs
end
end Go.Vm
