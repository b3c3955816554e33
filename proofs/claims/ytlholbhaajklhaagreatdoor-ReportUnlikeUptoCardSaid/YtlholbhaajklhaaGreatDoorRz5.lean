/- Ranges over functions: those who take what a function yields, and what they make of it. -/
import Derived.Test.YtlholbhaajklhaaGreatDoorRz4
namespace Go.Vm
open Go
theorem Jl {cs : List V} : (V.agg cs).cells = cs := rfl
theorem Jal {k : IntKind} {n : Int} : (V.int k n).cells = [.int k n] := rfl
theorem Jr : V.nils.cells = [.nils] := rfl
theorem Jn {id : Nat} : (V.yld id).cells = [.yld id] := rfl
structure Outs (F : Nat → Prop) (st st' : St) : Prop where
 ctr : st.ctr ≤ st'.ctr
 box : ∀ i, i < st.ctr → ¬ F i → st'.box.get i = st.box.get i
theorem Outs.refl (F : Nat → Prop) (st : St) : Outs F st st := ⟨Nat.le_refl _, fun _ _ _ => rfl⟩
theorem Outs.trans {F : Nat → Prop} {a b c : St} (h : Outs F a b) (k : Outs F b c) : Outs F a c := ⟨Nat.le_trans h.ctr k.ctr, fun i hi hf => (k.box i (Nat.lt_of_lt_of_le hi h.ctr) hf).trans (h.box i hi hf)⟩
theorem Outs.of {F : Nat → Prop} {a b : St} (h : Keep a b) : Outs F a b := ⟨h.ctr, fun i hi _ => h.box i hi⟩
theorem Outs.put {F : Nat → Prop} {a b : St} (h : Outs F a b) {id : Nat} (hid : a.ctr ≤ id ∨ F id) (x : Bx) : Outs F a (b.put id x) := ⟨h.ctr, fun i hi hf => by
 rw [Jm, if_neg]
 ·exact h.box i hi hf
 ·rintro rfl
  rcases hid with hid | hid
  ·omega
  ·exact hf hid⟩
theorem Vw.one {st : St} {x : V} {l : List S} (h : Vw st x l) : JZ x = true := by cases h <;> rfl
def Apart (F : Nat → Prop) : V → Prop
 | .ms id _ _ _ _ => ¬ F id
 | _ => True
theorem Vw.out {F : Nat → Prop} {a b : St} (h : Outs F a b) {x : V} {l : List S} (hv : Vw a x l) (ha : Apart F x) : Vw b x l := by
 cases hv with
 | nils => exact .nils
 | sl l ex => exact .sl l ex
 | ms id off cap cs e fl fz l hb hl hlt hid hcap => exact .ms id off cap cs e fl fz l (by rw [h.box id hid ha]; exact hb) hl hlt (Nat.lt_of_lt_of_le hid h.ctr) hcap
variable [Memo]
structure Cons (P : Program) (gl : Gl) (id : Nat) (α : Type) (val : (Nat → Prop) → St → α → List V → Prop) (σ τ : Type) (obs : σ → τ) (F : σ → Nat → Prop) (step : τ → α → τ × Bool) (pre : τ → α → Prop) (I : σ → Bool → St → Prop) : Prop where
 low : ∀ s b st, I s b st → ∀ i, F s i → i < st.ctr
 stable : ∀ s b st st', I s b st → st.ctr ≤ st'.ctr → (∀ i, F s i → st'.box.get i = st.box.get i) → I s b st'
 round : ∀ s st x args, I s false st → val (F s) st x args → pre (obs s) x → ∃ s' st', ihCall (W P) gl (.y id) args st = .val (.bool (step (obs s) x).2) st' ∧ obs s' = (step (obs s) x).1 ∧ I s' (!(step (obs s) x).2) st' ∧ Outs (F s) st st' ∧ ∀ i, F s' i → F s i ∨ st.ctr ≤ i
def Qm {σ α : Type} (step : σ → α → σ × Bool) : σ → List α → σ × Bool
 | s, [] => (s, false)
 | s, x :: r => match (step s x).2 with
  | true => Qm step (step s x).1 r
  | false => ((step s x).1, true)
omit [Memo] in
theorem Jc2 {σ α : Type} (step : σ → α → σ × Bool) : ∀ (s : σ) (a b : List α), Qm step s (a ++ b) = match (Qm step s a).2 with
  | true => Qm step s a
  | false => Qm step (Qm step s a).1 b
 | s, [], b => rfl
 | s, x :: r, b => by
  simp only [List.cons_append, Qm]
  cases (step s x).2 with
  | false => rfl
  | true => exact Jc2 step _ r b
def GoodRun {τ α : Type} (step : τ → α → τ × Bool) (pre : τ → α → Prop) : τ → List α → Prop
 | _, [] => True
 | s, x :: r => pre s x ∧ ((step s x).2 = true → GoodRun step pre (step s x).1 r)
omit [Memo] in
theorem GoodRun.app {τ α : Type} {step : τ → α → τ × Bool} {pre : τ → α → Prop} : ∀ {s : τ} {a b : List α}, GoodRun step pre s (a ++ b) → GoodRun step pre s a ∧ ((Qm step s a).2 = false → GoodRun step pre (Qm step s a).1 b)
 | s, [], b, h => ⟨trivial, fun _ => h⟩
 | s, x :: r, b, h => by
  obtain ⟨h1, h2⟩ := h
  cases hs : (step s x).2 with
  | true =>
   obtain ⟨h3, h4⟩ := GoodRun.app (h2 hs)
   refine ⟨⟨h1, fun _ => h3⟩, ?_⟩
   simp only [Qm, hs]
   exact h4
  | false =>
   refine ⟨⟨h1, fun h => by rw [hs] at h; cases h⟩, ?_⟩
   simp only [Qm, hs]
   intro h; cases h
def MarksOk (lo : Nat) (F : Nat → Prop) (st : St) : List Df → Nat → Prop
 | [], hi => lo ≤ hi
 | .mark m :: ds, hi => m < hi ∧ ¬ F m ∧ st.box.get m = some (.mark false) ∧ MarksOk lo F st ds m
 | _, _ => False
omit [Memo] in
theorem MarksOk.le {lo : Nat} {F : Nat → Prop} {st : St} : ∀ {ds : List Df} {hi : Nat}, MarksOk lo F st ds hi → lo ≤ hi
 | [], _, h => h
 | .mark _m :: _ds, _hi, h => Nat.le_of_lt (Nat.lt_of_le_of_lt (MarksOk.le h.2.2.2) h.1)
 | .call _ _ :: _, _, h => h.elim
omit [Memo] in
theorem MarksOk.outs {lo : Nat} {F F' : Nat → Prop} {st st' : St} (ho : Outs F st st') (hf : ∀ i, F' i → F i ∨ st.ctr ≤ i) : ∀ {ds : List Df} {hi hi' : Nat}, MarksOk lo F st ds hi → hi ≤ st.ctr → hi ≤ hi' → MarksOk lo F' st' ds hi'
 | [], _, _, h, _, hh => Nat.le_trans h hh
 | .mark m :: ds, hi, _, h, hc, hh => ⟨Nat.lt_of_lt_of_le h.1 hh, fun hm => (hf m hm).elim h.2.1 (fun h2 => by have := h.1; omega), by rw [ho.box m (Nat.lt_of_lt_of_le h.1 hc) h.2.1]; exact h.2.2.1, MarksOk.outs ho hf h.2.2.2 (Nat.le_trans (Nat.le_of_lt h.1) hc) (Nat.le_refl m)⟩
 | .call _ _ :: _, _, _, h, _, _ => h.elim
omit [Memo] in
theorem Jgt {lo : Nat} {F : Nat → Prop} : ∀ {ds : List Df} {hi : Nat} {st : St}, MarksOk lo F st ds hi → ∃ st3, JC ds st = some st3 ∧ st3.ctr = st.ctr ∧ (∀ i, i < lo ∨ hi ≤ i → st3.box.get i = st.box.get i) ∧ ∀ i, F i → st3.box.get i = st.box.get i
 | [], hi, st, h => ⟨st, rfl, rfl, fun _ _ => rfl, fun _ _ => rfl⟩
 | .mark m :: ds, hi, st, h => by
  obtain ⟨h1, h0, h2, h3⟩ := h
  have hsm : ∀ {ds : List Df} {k : Nat}, k ≤ m → MarksOk lo F st ds k → MarksOk lo F (st.put m (.mark true)) ds k := by
   intro ds
   induction ds with
   | nil => intro k _ h; exact h
   | cons d ds ih =>
    intro k hk h
    cases d with
    | mark j => exact ⟨h.1, h.2.1, by rw [Jm, if_neg (by have := h.1; omega)]; exact h.2.2.1, ih (by have := h.1; omega) h.2.2.2⟩
    | call f a => exact h.elim
  obtain ⟨st3, q1, q2, q3, q4⟩ := Jgt (hsm (Nat.le_refl m) h3)
  refine ⟨st3, by simp only [JC, h2]; exact q1, q2, fun i hi' => ?_, fun i hi' => ?_⟩
  ·have := MarksOk.le h3
   rw [q3 i (by omega), Jm, if_neg (by omega)]
  ·rw [q4 i hi', Jm, if_neg (by rintro rfl; exact h0 hi')]
 | .call _ _ :: _, _, _, h => h.elim
omit [Memo] in
theorem Apart.sub {F F' : Nat → Prop} {st : St} (hf : ∀ i, F' i → F i ∨ st.ctr ≤ i) {x : V} {l : List S} (hv : Vw st x l) (ha : Apart F x) : Apart F' x := by
 cases hv with
 | nils => trivial
 | sl => trivial
 | ms id off cap cs e fl fz l hb hl hlt hid hcap => exact fun h => (hf id h).elim ha (fun h2 => by omega)
omit [Memo] in
theorem Outs.trans' {F F' : Nat → Prop} {a b c : St} (h : Outs F a b) (k : Outs F' b c) (hf : ∀ i, F' i → F i ∨ a.ctr ≤ i) : Outs F a c :=
 ⟨Nat.le_trans h.ctr k.ctr, fun i hi hn => (k.box i (Nat.lt_of_lt_of_le hi h.ctr) (fun hx => (hf i hx).elim hn (fun h2 => by omega))).trans (h.box i hi hn)⟩
def FsD (ds : List Df) (gl : Gl) : List (Nat × V) → Fr → Prop
 | [], fr => fr.ds = ds ∧ fr.gl = gl
 | (k, v) :: r, fr => Fr.at fr k = v ∧ FsD ds gl r fr
def JdA (P : Program) (fn : Func) (R : V → St → Prop) (e : AE) (fr : Fr) (st : St) : Prop := (e = .ret ∨ e = .normal) ∧ ∃ st3, JC fr.ds st = some st3 ∧ ∃ vs, Jc (Jt P fr st3) fn.results.toList = some vs ∧ R (JF vs) st3
theorem Ji9 {P : Program} {st : St} {gl : Gl} {f : Nat} {args : List V} {fn : Func} {c : Code} {R : V → St → Prop} (hn : (Memo.look f).run args st = none) (hf : P.funcs[f]? = some fn) (hb : fn.body = some c)
  (hs : (Nat.ble args.length fn.ntmps && JO fn.ntmps c) = true)
  (h : ∀ R' : V → St → Prop, (∀ v st', R v st' → R' v st') → ∀ K : AE → Fr → St → Prop, (∀ fr st, JdA P fn R' .ret fr st → K .ret fr st) → (∀ fr st, JdA P fn R' .normal fr st → K .normal fr st) → DoK P none [c] (JH gl args) st K) : Says P gl f args st R := by
 refine Jm1 hn hf hb hs (DoR.mono (h R (fun _ _ h => h) (JdA P fn R) (fun _ _ h => h) (fun _ _ h => h)) fun e fr' st' h => ?_)
 cases e with
 | normal => exact h
 | exit id => exact h
 | ret => exact h
 | panic v => exact h
theorem DoK.range {P : Program} {rd : Option Nat} {fr : Fr} {st : St} {Q : AE → Fr → St → Prop} {g : Operand} {ps : Array Tmp} {a b : Code} {k : List Code} {f : Nat} {first captured : List V} {id : Nat} {fr' : Fr} {st1 st2 : St} {v : V} (hg : ev fr g = some (.fn f first captured)) (hf : JN P f = true)
  (he : JeN rd fr st ps.toList a b = some (id, fr', st1)) (hc : ihCall (W P) fr.gl (.f f) (first ++ [.yld id] ++ captured) st1 = .val v st2)
  (hl : ∃ s pend t ps' a' b', st2.box.get id = some (.loop s pend t ps' a' b') ∧ s ≠ .busy ∧ ((pend = none ∧ DoK P rd k fr' (st2.put id (.loop .exhausted pend t ps' a' b')) Q) ∨ (pend = some .ret ∧ Q .ret fr' (st2.put id (.loop .exhausted pend t ps' a' b'))))) : DoK P rd (.rangeFunc g ps a b :: k) fr st Q := by
 obtain ⟨s, pend, t, ps', a', b', h1, h2, h3⟩ := hl
 refine DoR.range hg hf he hc ⟨s, pend, t, ps', a', b', h1, h2, ?_⟩
 rcases h3 with h3 | h3
 ·exact .inl h3
 ·exact .inr (.inl h3)
theorem JcC {P : Program} {gl : Gl} {id : Nat} {args : List V} {st : St} {R : Bool → St → Prop} {pend : Option Code} {t : Tr V} {ps : List Tmp} {a b : Code} (hb : st.box.get id = some (.loop .ready pend t ps a b)) (hlen : args.length = ps.length)
  (ha : ∀ K : AE → Fr → St → Prop, (∀ fr' st', st'.box.get id = some (.loop .ready pend t ps a b) → (∀ K' : AE → Fr → St → Prop,
    (∀ fr2 st2, st2.box.get id = some (.loop .busy pend t ps a b) → R true (st2.put id (.loop .ready none t ps a b)) → K' .normal fr2 st2) →
    (∀ fr2 st2, st2.box.get id = some (.loop .busy pend t ps a b) → R false (st2.put id (.loop .done (some .ret) t ps a b)) → K' .ret fr2 st2) → DoK P (some id) [b] fr' (st'.put id (.loop .busy pend t ps a b)) K') → K .normal fr' st') → DoK P (some id) [a] ⟨JcB ps args t, [], gl⟩ st K) :
  ∃ v st', ihCall (W P) gl (.y id) args st = .val (.bool v) st' ∧ R v st' := by
 refine Jm0 hb hlen ?_
 have h1 := ha (fun e fr1 st1 => e = .normal ∧ ∃ pend' t' ps' a', st1.box.get id = some (.loop .ready pend' t' ps' a' b) ∧
   DoR P (some id) b fr1 (st1.put id (.loop .busy pend' t' ps' a' b)) fun e _ st2 => Jgg id R e st2) (fun fr' st' hb' hk => by
  refine ⟨rfl, pend, t, ps, a, hb', ?_⟩
  have h2 := hk (fun e _ st2 => Jgg id R e st2) (fun _ st2 hb2 hr => ⟨_, _, _, _, _, _, hb2, .inl ⟨rfl, hr⟩⟩) (fun _ st2 hb2 hr => ⟨_, _, _, _, _, _, hb2, .inr (.inl ⟨rfl, hr⟩)⟩)
  refine DoR.mono h2 fun e fr2 st2 h => ?_
  cases e with
  | normal => exact h
  | exit id => exact h
  | ret => exact h
  | panic v => exact h)
 refine DoR.mono h1 fun e fr2 st2 h => ?_
 cases e with
 | normal => exact h
 | exit id => exact h
 | ret => exact h
 | panic v => exact h
end Go.Vm
namespace Go.Vm
open Go Go.Proofs Go.Pa
def QN (l : List Fw) : Nat → Nat → List S → List (Nat × List S)
 | 0, _, _ => []
 | d + 1, n, p => (n, p) :: match l[n]? with
  | some f => (f.kids.zip f.names).flatMap fun q => QN l d q.1.toNat (p ++ [q.2])
  | none => []
def Jnc (F : Nat → Prop) (st : St) (x : Nat × List S) (args : List V) : Prop := ∃ pv, args = [.agg [.int .i64 (x.1 : Int), pv]] ∧ Vw st pv x.2 ∧ Apart F pv ∧ x.2.length ≤ 60
variable [Memo]
def Prod (gl : Gl) (x : V) (l : List Fw) (d n : Nat) (p : List S) : Prop :=
 ∀ (σ τ : Type) (obs : σ → τ) (step : τ → Nat × List S → τ × Bool) (I : σ → Bool → St → Prop) (F : σ → Nat → Prop) (id : Nat) (s : σ) (st : St) (xb lb : Nat) (pv : V) (pre : τ → Nat × List S → Prop), GoodRun step pre (obs s) (QN l d n p) → Cons Tryz.prog gl id (Nat × List S) Jnc σ τ obs F step pre I → I s false st →
  xb < st.ctr → lb < st.ctr → ¬ F s xb → ¬ F s lb → st.box.get xb = some (.cells [.int .i64 (n : Int), pv] 78 true (some 0)) → st.box.get lb = some (.cells [x] 22 true (some 0)) → Vw st pv p → Apart (F s) pv →
  Says Tryz.prog gl 69 [.yld id, .ptr xb 0, .ptr lb 0] st fun _ st' => ∃ s', obs s' = (Qm step (obs s) (QN l d n p)).1 ∧ I s' (Qm step (obs s) (QN l d n p)).2 st' ∧ Outs (F s) st st' ∧ ∀ i, F s' i → F s i ∨ st.ctr ≤ i
omit [Memo] in
theorem Jag (t : Tr V) (p : Tmp) (v : V) (gl : Gl) (k : Nat) : Fr.at ⟨JcB [p] [v] t, [], gl⟩ k = if k = p then v else t.at k := by
 show Tr.at (t.put p v) k = _
 simp only [Tr.at, Tr.get_put]
 by_cases h : k = p <;> simp [h]
theorem Jp9 {gl : Gl} {x : V} {l : List Fw} {d n : Nat} {p : List S} (hp : Prod gl x l d n p) {σ τ : Type} {obs : σ → τ} {step : τ → Nat × List S → τ × Bool} {I : σ → Bool → St → Prop} {F : σ → Nat → Prop} {id : Nat} {s : σ} {pre : τ → Nat × List S → Prop} (hok : GoodRun step pre (obs s) (QN l d n p)) (C : Cons Tryz.prog gl id (Nat × List S) Jnc σ τ obs F step pre I)
  {st : St} {fr : Fr} {g : Operand} {A B : Code} {k : List Code} {Q : AE → Fr → St → Prop} {xb lb yb : Nat} {pv : V} (hg : ev fr g = some (.fn 69 [] [.ptr xb 0, .ptr lb 0])) (hI : I s false st)
  (hyb : st.box.get yb = some (.cells [.yld id] 113 true (some 0))) (hyc : yb < st.ctr) (hyf : ¬ F s yb) (hxc : xb < st.ctr) (hlc : lb < st.ctr) (hxf : ¬ F s xb) (hlf : ¬ F s lb) (hxy : xb ≠ yb) (hly : lb ≠ yb)
  (hxb : st.box.get xb = some (.cells [.int .i64 (n : Int), pv] 78 true (some 0))) (hlb : st.box.get lb = some (.cells [x] 22 true (some 0))) (hv : Vw st pv p) (hap : Apart (F s) pv) (hapy : Apart (fun i => i = yb) pv)
  (h3 : Fr.at fr 3 = .ptr yb 0) (hgl : fr.gl = gl)
  (hA : ∀ (id' : Nat) (fr' : Fr) (st' : St) (a pv' : V) (K : AE → Fr → St → Prop), JZ a = true → JZ pv' = true → Fr.at fr' 45 = .agg [a, pv'] → Fr.at fr' 3 = .ptr yb 0 → fr'.ds = [] → fr'.gl = gl →
   (∀ fr2 st2, Fr.at fr2 7 = .ptr st'.ctr 0 → Fr.at fr2 3 = .ptr yb 0 → fr2.ds = [] → fr2.gl = gl → st2.ctr = st'.ctr + 1 → (∀ i, i ≠ st'.ctr → st2.box.get i = st'.box.get i) → st2.box.get st'.ctr = some (.cells [a, pv'] 78 true (some 0)) → K .normal fr2 st2) → DoK Tryz.prog (some id') [A] fr' st' K)
  (hB : ∀ (id' : Nat) (fr' : Fr) (st' : St) (v : Bool) (st2 : St) (a pv' : V) (nb : Nat) (K : AE → Fr → St → Prop), Fr.at fr' 3 = .ptr yb 0 → Fr.at fr' 7 = .ptr nb 0 → fr'.ds = [] → fr'.gl = gl → st'.box.get yb = some (.cells [.yld id] 113 true (some 0)) →
   st'.box.get nb = some (.cells [a, pv'] 78 true (some 0)) → ihCall (W Tryz.prog) gl (.y id) [.agg [a, pv']] st' = .val (.bool v) st2 → (v = true → ∀ fr2, K .normal fr2 st2) → (v = false → ∀ fr2, K .ret fr2 st2) → DoK Tryz.prog (some id') [B] fr' st' K)
  (hN : ∀ st2 s2, (Qm step (obs s) (QN l d n p)).2 = false → obs s2 = (Qm step (obs s) (QN l d n p)).1 → I s2 false st2 → Outs (F s) st st2 → (∀ i, F s2 i → F s i ∨ st.ctr + 2 ≤ i) → st2.box.get st.ctr = some (.mark false) → st.ctr + 2 ≤ st2.ctr → DoK Tryz.prog none k { fr with ds := .mark st.ctr :: fr.ds } st2 Q)
  (hR : ∀ st2 s2, (Qm step (obs s) (QN l d n p)).2 = true → obs s2 = (Qm step (obs s) (QN l d n p)).1 → I s2 true st2 → Outs (F s) st st2 → (∀ i, F s2 i → F s i ∨ st.ctr + 2 ≤ i) → st2.box.get st.ctr = some (.mark false) → st.ctr + 2 ≤ st2.ctr → Q .ret { fr with ds := .mark st.ctr :: fr.ds } st2) :
  DoK Tryz.prog none (.rangeFunc g #[45] A B :: k) fr st Q := by
 have hFc := C.low s false st hI
 have hnf : ∀ i, st.ctr ≤ i → ¬ F s i := fun i hi hf => by have := hFc i hf; omega
 let lp := fun (b : Bool) => Bx.loop (cond b .done .ready) (cond b (some .ret) none) fr.t [45] A B
 let id' := st.ctr + 1
 let F' := fun (s : σ) i => F s i ∨ i = id' ∨ i = yb
 let I' := fun (s : σ) (b : Bool) (st' : St) => I s b st' ∧ st'.box.get id' = some (lp b) ∧ st'.box.get yb = some (.cells [.yld id] 113 true (some 0)) ∧ id' < st'.ctr ∧ yb < st'.ctr ∧ ¬ F s id' ∧ ¬ F s yb
 have C' : Cons Tryz.prog gl id' (Nat × List S) Jnc σ τ obs F' step pre I' := by
  refine ⟨fun s b st' h i hi => ?_, fun s b st1 st2 h hc hb => ?_, fun s st1 y args h hval hpre => ?_⟩
  ·rcases hi with hi | rfl | rfl
   ·exact C.low s b st' h.1 i hi
   ·exact h.2.2.2.1
   ·exact h.2.2.2.2.1
  ·exact ⟨C.stable s b st1 st2 h.1 hc fun i hi => hb i (.inl hi), by rw [hb id' (.inr (.inl rfl))]; exact h.2.1, by rw [hb yb (.inr (.inr rfl))]; exact h.2.2.1, Nat.lt_of_lt_of_le h.2.2.2.1 hc, Nat.lt_of_lt_of_le h.2.2.2.2.1 hc, h.2.2.2.2.2⟩
  ·obtain ⟨h1, h2, h4, h5, h6, hidF, hyF⟩ := h
   obtain ⟨pw, rfl, hvw, hpa, hpl⟩ := hval
   have hone : JZ pw = true := hvw.one
   have hFi : ∀ i, F s i → i < st1.ctr := C.low s false st1 h1
   have hidy : id' ≠ yb := by show st.ctr + 1 ≠ yb; omega
   obtain ⟨v, st4, hc, hv1, s4, hv0, hv2, hv3, hv4⟩ := JcC (P := Tryz.prog) (gl := gl) (id := id') (args := [.agg [.int .i64 (y.1 : Int), pw]]) (st := st1) (R := fun v st2 => v = (step (obs s) y).2 ∧ ∃ s2, obs s2 = (step (obs s) y).1 ∧ I' s2 (!v) st2 ∧ Outs (F' s) st1 st2 ∧ ∀ i, F' s2 i → F' s i ∨ st1.ctr ≤ i) (pend := none) (t := fr.t) (ps := [45]) (a := A) (b := B) h2 rfl (fun K hK => by
    refine hA id' _ st1 (.int .i64 (y.1 : Int)) pw K rfl hone (by rw [Jag]; rfl) (by rw [Jag, if_neg (by decide)]; exact h3) rfl rfl fun fr2 st2 f7 f3 fd fg c2 hb2 hb3 => ?_
    have hid1 : st2.box.get id' = some (lp false) := by rw [hb2 id' (by omega)]; exact h2
    refine hK fr2 st2 hid1 fun K' hn hr => ?_
    have hst3 : ∀ i, i ≠ id' → (st2.put id' (.loop .busy none fr.t [45] A B)).box.get i = st2.box.get i := fun i hi => by rw [Jm, if_neg hi]
    have hI3 : I s false (st2.put id' (.loop .busy none fr.t [45] A B)) := C.stable s false st1 _ h1 (by rw [JB]; omega) fun i hi => by
     rw [hst3 i (by rintro rfl; exact hidF hi), hb2 i (by have := hFi i hi; omega)]
    have hO3 : Outs (fun i => i = id') st1 (st2.put id' (.loop .busy none fr.t [45] A B)) := ⟨by rw [JB]; omega, fun i hi hf => by rw [hst3 i hf, hb2 i (by omega)]⟩
    have hap' : Apart (fun i => i = id') pw := by
     cases pw <;> first | trivial | (intro e; exact hpa (.inr (.inl e)))
    have hapF : Apart (F s) pw := by
     cases pw <;> first | trivial | (intro e; exact hpa (.inl e))
    obtain ⟨s4, st4, hc4, hs4, hI4, hO4, hS4⟩ := C.round s (st2.put id' (.loop .busy none fr.t [45] A B)) y [.agg [.int .i64 (y.1 : Int), pw]] hI3 ⟨pw, rfl, hvw.out hO3 hap', hapF, hpl⟩ hpre
    rw [JB, c2] at hS4
    have hid4 : st4.box.get id' = some (.loop .busy none fr.t [45] A B) := by rw [hO4.box id' (by rw [JB, c2]; omega) hidF, Jm, if_pos rfl]
    have hyb4 : st4.box.get yb = some (.cells [.yld id] 113 true (some 0)) := by rw [hO4.box yb (by rw [JB, c2]; omega) hyF, hst3 yb (Ne.symm hidy), hb2 yb (by omega)]; exact h4
    have hc2 : st1.ctr + 1 ≤ st4.ctr := by have := hO4.ctr; rw [JB, c2] at this; exact this
    have hid5 : ¬ F s4 id' := fun h => (hS4 _ h).elim hidF (by omega)
    have hy5 : ¬ F s4 yb := fun h => (hS4 _ h).elim hyF (by omega)
    have hOut : ∀ bx, Outs (F' s) st1 (st4.put id' bx) := fun bx => by
     refine Outs.put ⟨by omega, fun i hi hf => ?_⟩ (.inr (.inr (.inl rfl))) _
     rw [hO4.box i (by rw [JB, c2]; omega) (fun h => hf (.inl h)), hst3 i (fun h => hf (.inr (.inl h))), hb2 i (by omega)]
    have hsub : ∀ i, F' s4 i → F' s i ∨ st1.ctr ≤ i := fun i hi => by
     rcases hi with hi | hi
     ·rcases hS4 i hi with h | h
      ·exact .inl (.inl h)
      ·exact .inr (by omega)
     ·exact .inl (.inr hi)
    have hfin : ∀ b : Bool, (step (obs s) y).2 = !b → I' s4 b (st4.put id' (lp b)) := fun b hbv => by
     refine ⟨C.stable _ _ st4 _ (by rw [hbv, Bool.not_not] at hI4; exact hI4) (Nat.le_refl _) (fun i hi => by rw [Jm, if_neg (by rintro rfl; exact hid5 hi)]), by rw [Jm, if_pos rfl], by rw [Jm, if_neg (Ne.symm hidy)]; exact hyb4, by rw [JB]; omega, by rw [JB]; omega, hid5, hy5⟩
    refine hB id' fr2 _ (step (obs s) y).2 st4 (.int .i64 (y.1 : Int)) pw st1.ctr K' f3 f7 fd fg (by rw [hst3 yb (Ne.symm hidy), hb2 yb (by omega)]; exact h4) (by rw [hst3 _ (by omega)]; exact hb3) hc4 (fun hv fr5 => ?_) (fun hv fr5 => ?_)
    ·exact hn fr5 st4 hid4 ⟨hv.symm, s4, hs4, hfin false hv, hOut _, hsub⟩
    ·exact hr fr5 st4 hid4 ⟨hv.symm, s4, hs4, hfin true hv, hOut _, hsub⟩)
   refine ⟨s4, st4, by rw [hc, hv1], hv0, by rw [← hv1]; exact hv2, hv3, hv4⟩
 let st1 : St := (st.new (.mark false)).new (.loop .ready none fr.t [45] A B)
 have hg1 : ∀ i, i < st.ctr → st1.box.get i = st.box.get i := fun i hi => by
  show ((st.new _).new _).box.get i = _
  rw [Js, if_neg (by rw [JY]; omega), Js, if_neg (by omega)]
 have hc1 : st1.ctr = st.ctr + 2 := rfl
 have hI1 : I' s false st1 := ⟨C.stable s false st st1 hI (by omega) fun i hi => hg1 i (hFc i hi), by show ((st.new _).new _).box.get (st.ctr + 1) = _; rw [Js, if_pos (show st.ctr + 1 = (st.new (.mark false)).ctr from rfl)]; rfl, by rw [hg1 yb hyc]; exact hyb, by show st.ctr + 1 < _; omega, by omega, hnf _ (by show st.ctr ≤ st.ctr + 1; omega), hyf⟩
 have hO1 : Outs (fun _ => False) st st1 := ⟨by omega, fun i hi _ => hg1 i hi⟩
 have hid' : id' = st.ctr + 1 := rfl
 have hpidc : Apart (fun i => i = id') pv := by
  cases hv with
  | nils => trivial
  | sl => trivial
  | ms id off cap cs e fl fz l hb hl hlt hid hcap => show ¬ id = id'; omega
 obtain ⟨v, st2, hc, s2, ho2, hI2, hO2, hS2⟩ := hp σ τ obs step I' F' id' s st1 xb lb pv pre hok C' hI1 (by omega) (by omega) (by rintro (h | h | h); exact hxf h; omega; exact hxy h) (by rintro (h | h | h); exact hlf h; omega; exact hly h) (by rw [hg1 xb hxc]; exact hxb) (by rw [hg1 lb hlc]; exact hlb)
  (hv.out hO1 (by cases pv <;> first | trivial | exact not_false)) (by cases pv <;> first | trivial | (rintro (h | h | h); exact hap h; exact hpidc h; exact hapy h))
 have hidF2 := hI2.2.2.2.2.2.1
 have hyF2 := hI2.2.2.2.2.2.2
 have hsub2 : ∀ i, F s2 i → F s i ∨ st.ctr + 2 ≤ i := fun i hi => by
  rcases hS2 i (.inl hi) with (h | h | h) | h
  ·exact .inl h
  ·subst h; exact absurd hi hidF2
  ·subst h; exact absurd hi hyF2
  ·exact .inr (by omega)
 have hmk : st2.box.get st.ctr = some (.mark false) := by
  rw [hO2.box st.ctr (by omega) (by rintro (h | h | h); exact hnf _ (Nat.le_refl _) h; omega; omega)]
  show ((st.new _).new _).box.get st.ctr = _
  rw [Js, if_neg (by rw [JY]; omega), Js, if_pos rfl]
 have hout : ∀ bx, Outs (F s) st (st2.put id' bx) := fun bx => by
  refine Outs.put ⟨by have := hO2.ctr; omega, fun i hi hf => ?_⟩ (.inl (by omega)) _
  by_cases hy : i = yb
  ·subst hy; rw [hI2.2.2.1, hyb]
  ·rw [hO2.box i (by omega) (by rintro (h | h | h); exact hf h; omega; exact hy h), hg1 i hi]
 have hbox := hI2.2.1
 have hctr : st.ctr + 2 ≤ st2.ctr := by have := hO2.ctr; omega
 have hIs : ∀ b bx, I s2 b st2 → I s2 b (st2.put id' bx) := fun b bx h => C.stable _ _ st2 _ h (Nat.le_refl _) fun i hi => by
  rw [Jm, if_neg (by rintro rfl; exact hidF2 hi)]
 refine DoK.range (id := id') (st1 := st1) (fr' := { fr with ds := .mark st.ctr :: fr.ds }) hg (by kernel_rfl) rfl (by rw [hgl]; exact J1 hc) ?_
 refine ⟨_, _, _, _, _, _, hbox, ?_, ?_⟩
 ·cases (Qm step (obs s) (QN l d n p)).2 <;> simp
 ·have hI3 := hI2.1
  cases hst : (Qm step (obs s) (QN l d n p)).2 with
  | false =>
   rw [hst] at hI3
   exact .inl ⟨rfl, hN _ s2 hst ho2 (hIs _ _ hI3) (hout _) hsub2 (by rw [Jm, if_neg (by omega)]; exact hmk) (by rw [JB]; exact hctr)⟩
  | true =>
   rw [hst] at hI3
   exact .inr ⟨rfl, hR _ s2 hst ho2 (hIs _ _ hI3) (hout _) hsub2 (by rw [Jm, if_neg (by omega)]; exact hmk) (by rw [JB]; exact hctr)⟩
end Go.Vm
namespace Go.Vm
open Go Go.Proofs Go.Pa
attribute [local simp] OkG Qf Qs OkD J3 Qe JL Je Jk vop Jq Jx ev evs toV Jj Fr.dsTo Fr.glTo Fr.toNone Jg Jh Ji J7 QI Jc JF Jt V.undef JX JQ Qg J8 J9 Qa Qh Qi JT Qb Qj Qc JR Qk JE Jw Jy JD JG Ju JS JW Jb0 Jb1 Q6 Jbh JdL JdM fg0 fg1 fg2 fg3 fg4 fg5 JK Ql
theorem z47 : JU Tryz.prog 78 = some 2 := by kernel_rfl
theorem a47 : QM Tryz.prog 78 = some true := by kernel_rfl
theorem z79 : JU Tryz.prog 113 = some 1 := by kernel_rfl
theorem a79 : QM Tryz.prog 113 = some false := by kernel_rfl
theorem Jpd : QZ Tryz.prog 78 = some (.agg [.int .i64 0, .nils]) := by kernel_rfl
theorem Jk6 {st : St} {id : Nat} {a b : V} {e : TypeId} {fl : Bool} {fz : Option Nat} (hb : st.box.get id = some (.cells [a, b] e fl fz)) : Jz Tryz.prog st 78 (.ptr id 0) = some (.agg [a, b]) := by
 simp only [Jz, hb, QQ, a47, z47]; rfl
theorem Jgu {st : St} {id : Nat} {a b c d : V} {e : TypeId} {fl : Bool} (ha : JZ a = true) (hb' : JZ b = true) (hb : st.box.get id = some (.cells [c, d] e fl (some 0))) : Jaq Tryz.prog st 78 (.ptr id 0) (.agg [a, b]) = some (st.put id (.cells [a, b] e fl (some 0))) :=
 Jdq z47 hb rfl rfl (by simp [ha, hb'])
theorem fh0 (id : Nat) : Jo Tryz.prog 78 (.ptr id 0) 0 = some (.ptr id 0) := by kernel_rfl
theorem fh1 (id : Nat) : Jo Tryz.prog 78 (.ptr id 0) 1 = some (.ptr id 1) := by kernel_rfl
theorem Row.cells1 {α : Type} {f : α → List V} {x : V} {l : List α} (h : Row f x l) : x.cells = [x] := by cases h <;> rfl
theorem JpH (k : Int) (a b c d : Nat) (e : Option Nat) : JdT Tryz.prog 78 [(0, .int .i64 k), (1, .ms a b c d e)] = some (.agg [.int .i64 k, .ms a b c d e]) := by kernel_rfl
theorem Jk7 {st : St} {x : V} {l : List S} (hv : Vw st x l) (hl : l.length ≤ 1000) : ∃ y, Jau Tryz.prog 23 x none (.int .i64 (l.length : Int)) (.int .i64 (l.length : Int)) = some y ∧
  ∀ (st2 : St) (z : V) (nm : S), Vw st2 y l → Ja4 st2 z [.str nm] → QR Tryz.prog st2 23 y z = some (.ms st2.ctr 0 (l.length + 1) 1 none, st2.new (.cells ((l ++ [nm]).map .str) 9 false (some 0))) := by
 obtain ⟨i, hi, h1, h2⟩ := i9
 have q1 : Nat.ble ((l.length + 1) * i.bytes) JA = true := Nat.ble_eq_true_of_le (Nat.le_trans (Nat.mul_le_mul (show l.length + 1 ≤ 1001 by omega) h2) (by simp [JA]))
 have q2 : Nat.ble (l.length + 1) JA = true := Nat.ble_eq_true_of_le (by simp [JA]; omega)
 have bb : ∀ n, Nat.ble n n = true := fun n => Nat.ble_eq_true_of_le (Nat.le_refl n)
 have b0 : Nat.ble 0 l.length = true := Nat.ble_eq_true_of_le (Nat.zero_le _)
 have hasn : JaC (.int .i64 (l.length : Int)) = some l.length := rfl
 cases hv with
 | nils =>
  refine ⟨.nils, by
   show Jau Tryz.prog 23 .nils none (.int .i64 0) (.int .i64 0) = some .nils
   simp only [Jau, Tryz.underlying23, J5, z9, show JaC (.int .i64 0) = some 0 from rfl], fun st2 z nm _ hz => ?_⟩
  simp only [QR, Tryz.underlying23, hi, h1, zs9, hz.1, JV, hz.2, List.length_singleton, show Nat.beq 1 0 = false from rfl, show Nat.ble ((0 + 1) * i.bytes) JA = true from q1, show Nat.ble (0 + 1) JA = true from q2]
  rfl
 | sl l ex =>
  refine ⟨.sl l.length (l.map .str) true, ?_, fun st2 z nm _ hz => ?_⟩
  ·simp only [Jau, Tryz.underlying23, J5, hasn, z9, bb, b0, Nat.mul_one, List.length_map, Nat.beq_refl, Bool.and_self, Nat.sub_zero, sub, List.drop_zero, List.take_of_length_le (Nat.le_of_eq (List.length_map _))]
  ·simp only [QR, Tryz.underlying23, hi, h1, zs9, hz.1, JV, hz.2, List.length_singleton, Nat.mul_one, List.length_map, Nat.beq_refl, show Nat.beq 1 0 = false from rfl, q1, q2]
   simp [St.new, V.cells]
 | ms id off cap cs e fl fz l hb hl hlt hid hcap =>
  refine ⟨.ms id off l.length 1 (some l.length), ?_, fun st2 z nm hv2 hz => ?_⟩
  ·simp only [Jau, Tryz.underlying23, J5, hasn, z9, bb, b0, hcap, Nat.beq_refl, Bool.and_self, Nat.sub_zero, Nat.zero_mul, Nat.add_zero]
  ·have hs2 := hv2.cells
   have hf : Jay 0 off l.length 1 1 (some l.length) = .fresh := by
    have : Nat.ble (l.length + 1) l.length = false := by
     cases hx : Nat.ble (l.length + 1) l.length with
     | false => rfl
     | true => exact absurd (Nat.le_of_ble_eq_true hx) (by omega)
    simp only [Jay, this]
   have hf2 : ∀ n, Jay n off l.length 1 1 (some l.length) = .fresh := fun n => hf
   have hbx : ∃ cs e fl fz, st2.box.get id = some (.cells cs e fl fz) := by
    simp only [JV] at hs2
    split at hs2
    ·rename_i cs e fl fz hq; exact ⟨cs, e, fl, fz, hq⟩
    ·cases hs2
   obtain ⟨cs2, e2, fl2, fz2, hb2⟩ := hbx
   simp only [QR, Tryz.underlying23, hi, h1, zs9, hz.1, hs2, hz.2, List.length_singleton, Nat.beq_refl, show Nat.beq 1 0 = false from rfl, q1, q2, hb2, hf2]
   simp [St.new, V.cells]
theorem Vw.slice3 {st : St} {x y : V} {l : List S} (hv : Vw st x l) (h : Jau Tryz.prog 23 x none (.int .i64 (l.length : Int)) (.int .i64 (l.length : Int)) = some y) : Vw st y l := by
 have bb : ∀ n, Nat.ble n n = true := fun n => Nat.ble_eq_true_of_le (Nat.le_refl n)
 have b0 : Nat.ble 0 l.length = true := Nat.ble_eq_true_of_le (Nat.zero_le _)
 have hasn : JaC (.int .i64 (l.length : Int)) = some l.length := rfl
 cases hv with
 | nils =>
  have : Jau Tryz.prog 23 .nils none (.int .i64 0) (.int .i64 0) = some .nils := by simp only [Jau, Tryz.underlying23, J5, z9, show JaC (.int .i64 0) = some 0 from rfl]
  obtain rfl := Option.some.inj (this.symm.trans h)
  exact .nils
 | sl l ex =>
  simp only [Jau, Tryz.underlying23, J5, hasn, z9, bb, b0, Nat.mul_one, List.length_map, Nat.beq_refl, Bool.and_self, Nat.sub_zero, sub, List.drop_zero, List.take_of_length_le (Nat.le_of_eq (List.length_map _)), Option.some.injEq] at h
  subst h
  exact .sl l true
 | ms id off cap cs e fl fz l hb hl hlt hid hcap =>
  simp only [Jau, Tryz.underlying23, J5, hasn, z9, bb, b0, hcap, Nat.beq_refl, Bool.and_self, Nat.sub_zero, Nat.zero_mul, Nat.add_zero, Option.some.injEq] at h
  subst h
  exact .ms id off (some l.length) cs e fl fz l hb hl hlt hid (bb _)
variable [Memo] [NY]
set_option maxRecDepth 100000 in
theorem Jgv (gl : Gl) (st : St) (x a b : V) (hx : x.cells = [x]) (hxo : JZ x = true) (ha : JZ a = true) (hb : JZ b = true) :
  Says Tryz.prog gl 44 [x, .agg [a, b]] st (fun v st' => v = .fn 69 [] [.ptr (st.ctr + 1) 0, .ptr st.ctr 0] ∧ st' = (st.new (.cells [x] 22 true (some 0))).new (.cells [a, b] 78 true (some 0))) := by
 refine QD (NY.no _ rfl rfl rfl _ _) Tryz.func44 rfl (by kernel_rfl) fun R hR K gr gn => ?_
 generalize hfr : JH gl [x, .agg [a, b]] = fr
 have hF : Fs gl [(0, x), (1, .agg [a, b])] fr := by subst hfr; simp [Fs]
 simp only [Fs] at hF
 clear hfr
 refine Ks_ (Ka_ (gs := [none, none, none]) fun K1 gK => ?_)
 simp (disch := omega) [hF, hx, hxo, ha, hb, Jl]
 refine gK _ _ (Ks_ (Ka_ (gs := [none, none]) fun K1 gK => ?_))
 simp (disch := omega) []
 refine gK _ _ (Kq_ (gr _ _ ?_))
 simp [JM, Tryz.f44, hF]
 refine hR _ _ ?_
 exact ⟨rfl, rfl⟩
omit [Memo] [NY] in
theorem Jgw : ∀ {l : List Fw}, (∀ f ∈ l, f.ok) → (∀ f ∈ l, f.small) → Jaj (l.flatMap Fw.cells) ≤ 300 * l.length + 1
 | [], _, _ => Nat.le_of_ble_eq_true rfl
 | f :: l, hok, hs => by
  have h1 := Jcn (hok f (by simp)).names
  have h2 := JiS (hok f (by simp)).kids
  have h3 := (hs f (by simp)).names
  have h4 := (hs f (by simp)).kids
  have ih := Jgw (l := l) (fun g hg => hok g (by simp [hg])) (fun g hg => hs g (by simp [hg]))
  rw [List.flatMap_cons]
  simp only [Fw.cells, List.cons_append, List.nil_append, Jaj, vsz, List.length_cons]
  omega
omit [Memo] [NY] in
theorem Jdm {x : V} {l : List Fw} (h : Row Fw.cells x l) (hok : ∀ f ∈ l, f.ok) (hs : ∀ f ∈ l, f.small) (hl : l.length ≤ 1000) : veq 1000000000 x x = true := by
 refine QA _ ?_
 cases h with
 | nils => exact Nat.le_of_ble_eq_true rfl
 | sl l ex =>
  have := Jgw hok hs
  simp only [vsz]; omega
omit [Memo] [NY] in
theorem Jkd {st : St} {x : V} {l : List S} (h : Vw st x l) (hl : l.length ≤ 1000) : veq 1000000000 x x = true := by
 refine QA _ ?_
 cases h with
 | nils => exact Nat.le_of_ble_eq_true rfl
 | sl l ex =>
  have : ∀ l : List S, Jaj (l.map V.str) = 2 * l.length + 1 := fun l => by
   induction l with
   | nil => rfl
   | cons a l ih => simp only [List.map_cons, Jaj, vsz, ih, List.length_cons]; omega
  simp only [vsz, this]; omega
 | ms => exact Nat.le_of_ble_eq_true rfl
def Jel (l : List Fw) (d : Nat) (f : Fw) (p : List S) (i : Nat) : List (Nat × List S) := ((f.kids.zip f.names).drop i).flatMap fun q => QN l d q.1.toNat (p ++ [q.2])
omit [Memo] [NY] in
theorem Jnd {l : List Fw} {d n : Nat} {p : List S} (hn : n < l.length) : QN l (d + 1) n p = (n, p) :: Jel l d l[n] p 0 := by
 simp only [QN, List.getElem?_eq_getElem hn, Jel, List.drop_zero]
omit [Memo] [NY] in
theorem Jke {l : List Fw} {d : Nat} {f : Fw} {p : List S} {i : Nat} (hi : i < f.kids.length) (hi' : i < f.names.length) : Jel l d f p i = QN l d f.kids[i].toNat (p ++ [f.names[i]]) ++ Jel l d f p (i + 1) := by
 unfold Jel
 rw [List.drop_eq_getElem_cons (by simp; omega), List.flatMap_cons, List.getElem_zip]
omit [Memo] [NY] in
theorem Jpe {l : List Fw} {d : Nat} {f : Fw} {p : List S} {i : Nat} (hi : f.kids.length ≤ i) : Jel l d f p i = [] := by
 unfold Jel
 rw [List.drop_eq_nil_of_le (by simp; omega)]; rfl
set_option maxHeartbeats 1000000 in
set_option maxRecDepth 100000 in
theorem JlY (gl : Gl) (x : V) (l : List Fw) (hx : Row Fw.cells x l) (hok : ∀ f ∈ l, f.ok) (hs : ∀ f ∈ l, f.small) (hl : l.length ≤ 60) (hm : MayF l) (d n : Nat) (p : List S) (hn : n < l.length) (hpn : p.length ≤ n) (ih : ∀ (j : Nat) (hj : j < l[n].kids.length) (hj' : j < l[n].names.length), Prod gl x l d l[n].kids[j].toNat (p ++ [l[n].names[j]])) {σ τ : Type} {obs : σ → τ} {step : τ → Nat × List S → τ × Bool} {I : σ → Bool → St → Prop} {F : σ → Nat → Prop} {id : Nat} {s : σ} (st : St) {xb lb : Nat} {pv : V} {pre : τ → Nat × List S → Prop} (hyok : GoodRun step pre (obs s) (QN l (d + 1) n p)) (C : Cons Tryz.prog gl id (Nat × List S) Jnc σ τ obs F step pre I) (hI : I s false st) (hxc : xb < st.ctr) (hlc : lb < st.ctr) (hxf : ¬ F s xb) (hlf : ¬ F s lb) (hxb : st.box.get xb = some (.cells [.int .i64 (n : Int), pv] 78 true (some 0))) (hlb : st.box.get lb = some (.cells [x] 22 true (some 0))) (hv : Vw st pv p) (hap : Apart (F s) pv) :
  Says Tryz.prog gl 69 [.yld id, .ptr xb 0, .ptr lb 0] st (fun _ st' => ∃ s', obs s' = (Qm step (obs s) (QN l (d + 1) n p)).1 ∧ I s' (Qm step (obs s) (QN l (d + 1) n p)).2 st' ∧ Outs (F s) st st' ∧ ∀ i, F s' i → F s i ∨ st.ctr ≤ i) := by
 refine Ji9 (NY.no _ rfl rfl rfl _ _) Tryz.func69 rfl (by kernel_rfl) fun R hR K gr gn => ?_
 generalize hfr : JH gl [.yld id, .ptr xb 0, .ptr lb 0] = fr
 have hF : FsD [] gl [(0, .yld id), (1, .ptr xb 0), (2, .ptr lb 0)] fr := by subst hfr; simp [FsD]
 simp only [FsD] at hF
 clear hfr
 have hFc := C.low s false st hI
 have hix : ∀ {k : IntKind} {a : Int}, 0 ≤ a → a < (l.length : Int) → Jd Tryz.prog 22 x (.int k a) = some (.cp (Jed Fw.cells l a.toNat)) := fun h0 h1 => hx.ix (fun f _ => f.len6) Tryz.underlying22 z38 h0 h1
 have hnew : ({ ctr := st.ctr + 1, box := st.box.put st.ctr (.cells [.yld id] 113 true (some 0)) } : St) = st.new (.cells [.yld id] 113 true (some 0)) := rfl
 have kq1 := (Keep.refl st).new' (.cells [.yld id] 113 true (some 0))
 have by1 : (st.new (.cells [.yld id] 113 true (some 0))).box.get st.ctr = some (.cells [.yld id] 113 true (some 0)) := by rw [Js, if_pos rfl]
 have cq1 : (st.new (.cells [.yld id] 113 true (some 0))).ctr = st.ctr + 1 := rfl
 generalize st.new (.cells [.yld id] 113 true (some 0)) = q1 at hnew kq1 by1 cq1
 have bx1 : q1.box.get xb = some (.cells [.int .i64 (n : Int), pv] 78 true (some 0)) := by rw [kq1.box _ hxc]; exact hxb
 have ly1 := Jb (P := Tryz.prog) (off := 0) a79 z79 by1 rfl
 have lx1 := Jk6 bx1
 have hgr := hyok
 rw [Jnd hn] at hgr
 obtain ⟨s1, q2, hcy, ho1, hI2, hO2, hS2⟩ := C.round s q1 (n, p) [.agg [.int .i64 (n : Int), pv]] (C.stable s false st q1 hI kq1.ctr fun i hi => kq1.box i (hFc i hi)) ⟨pv, rfl, hv.keep kq1, hap, by show p.length ≤ 60; omega⟩ hgr.1
 have htour := Jnd (d := d) (p := p) hn
 obtain ⟨b, hb⟩ : ∃ b, (step (obs s) (n, p)).2 = b := ⟨_, rfl⟩
 have fin : ∀ (st2 : St) (ds : List Df) (hi : Nat) (s2 : σ) (b : Bool), I s2 b st2 → Outs (F s) st st2 → (∀ i, F s2 i → F s i ∨ st.ctr ≤ i) → MarksOk st.ctr (F s2) st2 ds hi → Qm step (obs s) (QN l (d + 1) n p) = (obs s2, b) → ∃ st3, JC ds st2 = some st3 ∧ ∀ v, R v st3 := fun st2 ds hi s2 b hI2 hO2 hS2 hmk hrun => by
  obtain ⟨st3, m1, m2, m3, m4⟩ := Jgt hmk
  refine ⟨st3, m1, fun v => hR v st3 ?_⟩
  rw [hrun]
  exact ⟨s2, rfl, C.stable s2 b st2 st3 hI2 (by omega) m4, ⟨by rw [m2]; exact hO2.ctr, fun i hi hf => by rw [m3 i (.inl hi)]; exact hO2.box i hi hf⟩, hS2⟩
 rw [hb] at hcy hI2
 have hst2 : Outs (F s) st q2 := (Outs.of kq1).trans hO2
 have hsub2 : ∀ i, F s1 i → F s i ∨ st.ctr + 1 ≤ i := fun i hi => (hS2 i hi).imp_right fun h => by omega
 have byF : ¬ F s st.ctr := fun h => by have := hFc _ h; omega
 have by2 : q2.box.get st.ctr = some (.cells [.yld id] 113 true (some 0)) := by rw [hO2.box _ (by omega) byF]; exact by1
 have bx2 : q2.box.get xb = some (.cells [.int .i64 (n : Int), pv] 78 true (some 0)) := by rw [hst2.box _ hxc hxf]; exact hxb
 have bl2 : q2.box.get lb = some (.cells [x] 22 true (some 0)) := by rw [hst2.box _ hlc hlf]; exact hlb
 have ll2 := Jb (P := Tryz.prog) (T := 22) (off := 0) a22 z22 bl2 rfl
 have ln2 := Jb (P := Tryz.prog) (T := 3) (off := 0) a3 z3 bx2 rfl
 have cq2 : st.ctr + 1 ≤ q2.ctr := by have := hO2.ctr; omega
 refine Ks_ (Ka_ (gs := [none]) fun K1 gK => ?_)
 simp (disch := omega) [hF, hnew, Jn]
 refine gK _ _ (Ks_ (Ks_ (Ka_ (gs := [none, none, none, none]) fun K1 gK => ?_)))
 simp (disch := omega) [hF, ly1, lx1, hcy]
 refine gK _ _ ?_
 cases b with
 | true =>
  refine Kf_ (by simp (disch := omega) []) ?_
  have hFc2 := C.low _ false q2 hI2
  have hfo := hok _ (List.getElem_mem hn)
  have hfs := hs _ (List.getElem_mem hn)
  have hone := hm.one n hn
  have hlen := JcX hone
  have w1 := JdE q2 hfo
  have kq3 := Jes q2 l[n]
  have bf3 := Jfe q2 l[n]
  have cf3 := Jff q2 l[n]
  generalize JbX q2 l[n] = q3 at w1 kq3 bf3 cf3
  have lk3 := Jb (P := Tryz.prog) (off := 3) a36 z36 bf3 rfl
  have lkn := hfo.kids.len Tryz.underlying45
  have hk60 := hfs.kids
  have hks : ∀ {k : IntKind} {a : Int}, 0 ≤ a → a < (l[n].kids.length : Int) → Jd Tryz.prog 45 l[n].kv (.int k a) = some (.cp (Jed iC l[n].kids a.toNat)) := fun h0 h1 => hfo.kids.ix (z := 1) (fun _ _ => rfl) Tryz.underlying45 z3 h0 h1
  have hns : ∀ {k : IntKind} {a : Int}, 0 ≤ a → a < (l[n].names.length : Int) → Jd Tryz.prog 23 l[n].nv (.int k a) = some (adr 1 l[n].nv a.toNat) := fun h0 h1 => (hfo.names.vw st).ix Tryz.underlying23 z9 h0 h1
  refine Kk_ (Ks_ (Ka_ (gs := [none, none, none, none, none, none, none]) fun K1 gK => ?_))
  simp (disch := omega) [hF, fh0, ll2, ln2, hix, flp, Jc6, w1, Jl, JZ]
  refine gK _ _ (Ks_ (Ka_ (gs := [none, none, none, none]) fun K1 gK => ?_))
  simp (disch := omega) [lk3, lkn]
  refine gK _ _ ?_
  refine Kl_ (l[n].kids.length) (fun i fr st' => ∃ (ds : List Df) (s' : σ), FsD ds gl [(1, .ptr xb 0), (2, .ptr lb 0), (3, .ptr st.ctr 0), (4, .ptr q2.ctr 0), (18, l[n].kv), (19, .int .i64 (l[n].kids.length : Int)), (20, .int .i64 (i : Int))] fr ∧ i ≤ l[n].kids.length ∧ I s' false st' ∧ (Outs (F s) st st' ∧ (∀ i, F s' i → F s i ∨ st.ctr ≤ i) ∧ ¬ F s' xb ∧ ¬ F s' lb ∧ ¬ F s' st.ctr ∧ ¬ F s' q2.ctr ∧ Apart (F s') pv) ∧ (st'.box.get st.ctr = some (.cells [.yld id] 113 true (some 0)) ∧ st'.box.get q2.ctr = some (.cells l[n].cells 47 true (some 0)) ∧ q2.ctr < st'.ctr) ∧ MarksOk st.ctr (F s') st' ds st'.ctr ∧ (Qm step (obs s) (QN l (d + 1) n p) = Qm step (obs s') (Jel l d l[n] p i) ∧ GoodRun step pre (obs s') (Jel l d l[n] p i))) (0) (fun fr st' => ∃ (ds : List Df) (s' : σ), FsD ds gl [] fr ∧ I s' false st' ∧ Outs (F s) st st' ∧ (∀ i, F s' i → F s i ∨ st.ctr ≤ i) ∧ MarksOk st.ctr (F s') st' ds st'.ctr ∧ Qm step (obs s) (QN l (d + 1) n p) = (obs s', false)) ?_ ?_ ?_ ?_
  ·exact ⟨[], s1, by simp [FsD, hF], Nat.zero_le _, C.stable _ _ q2 _ hI2 kq3.ctr (fun i hi => kq3.box i (hFc2 i hi)), ⟨hst2.trans (.of kq3), fun i hi => (hsub2 i hi).imp_right fun h => by omega, fun h => (hsub2 _ h).elim hxf fun h2 => by omega, fun h => (hsub2 _ h).elim hlf fun h2 => by omega, fun h => (hsub2 _ h).elim byF fun h2 => by omega, fun h => by have := hFc2 _ h; omega, Apart.sub (st := st) (fun i hi => (hsub2 i hi).imp_right fun h => by omega) hv hap⟩, ⟨by rw [kq3.box _ (by omega)]; exact by2, bf3, cf3⟩, (by show st.ctr ≤ q3.ctr; omega), ⟨by rw [htour, Qm, hb, ho1], by rw [ho1]; exact hgr.2 hb⟩⟩
  ·rintro i fr st' ⟨ds, s', _, hi, hI', ⟨hO', hS', hx', hl', hy', hf', hp'⟩, ⟨by', bf', cf'⟩, hmk, ⟨hrun, hgs⟩⟩
   omega
  ·as_aux_lemma =>
   clear hF
   rintro i fr st' ⟨ds, s', hF, hi, hI', ⟨hO', hS', hx', hl', hy', hf', hp'⟩, ⟨by', bf', cf'⟩, hmk, ⟨hrun, hgs⟩⟩ K1 gk1 gx1 go1
   simp only [FsD] at hF
   have gr1 := fun fr st h => go1 AE.ret fr st trivial (gr fr st h)
   refine Ks_ (Ka_ (gs := [none]) fun K1 gK => ?_)
   simp (disch := omega) [hF]
   refine gK _ _ (Ks_ ?_)
   by_cases hlt : i < l[n].kids.length
   ·
    refine Kt_ (by simp (disch := omega) [hlt]) ?_
    have hlt' : i < l[n].names.length := by omega
    have hkd := fun st => ilp (st := st) hlt
    refine Kk_ (Ks_ ?_)
    refine Kb_ fun K2 gn2 gx2 go2 => ?_
    have gr2 := fun fr st h => go2 AE.ret fr st trivial (gr1 fr st h)
    refine Ks_ (Ka_ (gs := [none, none, none, none, none]) fun K1 gK => ?_)
    simp (disch := omega) [hF, hlt, hks, hkd]
    refine gK _ _ ?_
    have hkr := hm.kid n hn _ (List.getElem_mem hlt)
    obtain ⟨kn, hkn⟩ := Int.eq_ofNat_of_zero_le (show 0 ≤ l[n].kids[i] by omega)
    have ihk := ih i hlt hlt'
    have hgk := hgs
    rw [Jke hlt hlt', hkn, Int.toNat_natCast] at hgk
    have hgk := hgk.app
    rw [hkn, Int.toNat_natCast] at ihk
    refine Ks_ ?_
    refine Km_ (fun fr st' => ∃ (xb2 lb2 : Nat) (pv2 : V), FsD ds gl [(1, .ptr xb 0), (2, .ptr lb 0), (3, .ptr st.ctr 0), (4, .ptr q2.ctr 0), (18, l[n].kv), (19, .int .i64 (l[n].kids.length : Int)), (20, .int .i64 (i : Int)), (44, .fn 69 [] [.ptr xb2 0, .ptr lb2 0])] fr ∧ I s' false st' ∧ Outs (F s) st st' ∧ (st'.box.get st.ctr = some (.cells [.yld id] 113 true (some 0)) ∧ st'.box.get q2.ctr = some (.cells l[n].cells 47 true (some 0)) ∧ q2.ctr < st'.ctr) ∧ MarksOk st.ctr (F s') st' ds st'.ctr ∧ (st'.box.get xb2 = some (.cells [.int .i64 (kn : Int), pv2] 78 true (some 0)) ∧ st'.box.get lb2 = some (.cells [x] 22 true (some 0)) ∧ xb2 < st'.ctr ∧ lb2 < st'.ctr ∧ q2.ctr < lb2 ∧ q2.ctr < xb2) ∧ Vw st' pv2 (p ++ [l[n].names[i]]) ∧ (Apart (F s') pv2 ∧ Apart (fun i => i = st.ctr) pv2 ∧ ¬ F s' xb2 ∧ ¬ F s' lb2)) ?_ ?_
    ·as_aux_lemma =>
     intro K3 gm3 go3
     have bx' : st'.box.get xb = some (.cells [.int .i64 (n : Int), pv] 78 true (some 0)) := by rw [hO'.box _ hxc hxf]; exact hxb
     have bl' : st'.box.get lb = some (.cells [x] 22 true (some 0)) := by rw [hO'.box _ hlc hlf]; exact hlb
     have ll' := Jb (P := Tryz.prog) (T := 22) (off := 0) a22 z22 bl' rfl
     have lp' := Jb (P := Tryz.prog) (T := 23) (off := 1) a23 z23 bx' rfl
     have ln' := Jb (P := Tryz.prog) (T := 23) (off := 2) a23 z23 bf' rfl
     have hv' := hv.out hO' hap
     have lpv := hv'.len Tryz.underlying23
     have hnd := fun st => (hfo.names.vw st).ld z9 a9 hlt'
     obtain ⟨y, hy1, hy2⟩ := Jk7 hv' (by omega)
     obtain ⟨sC, hsC⟩ : ∃ s : St, s = { ctr := st'.ctr + 20, box := st'.box.put (st'.ctr + 16) (.cells [.str l[n].names[i]] 9 true (some 0)) } := ⟨_, rfl⟩
     have kC : Keep st' sC := by rw [hsC]; exact ((Keep.refl st').tick 20).put (by show st'.ctr ≤ _; omega) _
     have gC : sC.box.get (st'.ctr + 16) = some (.cells [.str l[n].names[i]] 9 true (some 0)) := by rw [hsC]; simp [Tr.get_put]
     have cC : sC.ctr = st'.ctr + 20 := by rw [hsC]
     have mC : Ja4 sC (.ms (st'.ctr + 16) 0 1 1 (some 1)) [.str l[n].names[i]] := (Mine.mk (lo := 0) (e := 9) (Nat.zero_le _) (by omega) gC rfl).src rfl
     have vC : Vw sC y p := by
      have := hv'.keep kC
      exact Vw.slice3 this hy1
     have eA := hy2 sC _ l[n].names[i] vC mC
     rw [cC] at eA
     obtain ⟨sD, hsD⟩ : ∃ s : St, s = sC.new (.cells ((p ++ [l[n].names[i]]).map .str) 9 false (some 0)) := ⟨_, rfl⟩
     rw [← hsD] at eA
     have kD : Keep st' sD := by rw [hsD]; exact kC.new' _
     have cD : sD.ctr = st'.ctr + 21 := by rw [hsD, JY, cC]
     have gD : sD.box.get (st'.ctr + 20) = some (.cells ((p ++ [l[n].names[i]]).map .str) 9 false (some 0)) := by rw [hsD, Js, if_pos cC.symm]
     have vD : Vw sD (.ms (st'.ctr + 20) 0 (p.length + 1) 1 none) (p ++ [l[n].names[i]]) := by
      have := Mine.ms (lo := 0) (e := 9) (st := sD) (st'.ctr + 20) (p.length + 1) none ((p ++ [l[n].names[i]]).map .str) false (Nat.zero_le _) (by omega) gD (by simp) (fun c hc => by cases hc)
      rw [List.take_of_length_le (by simp)] at this
      exact this.vw
     have bD := kD.box lb (by have := hO'.ctr; omega)
     rw [bl'] at bD
     have llD := Jb (P := Tryz.prog) (T := 22) (off := 0) a22 z22 bD rfl
     obtain ⟨v, sE, hcE, rfl, hsE⟩ := Says.use (Jgv gl sD x (.int .i64 (kn : Int)) (.ms (st'.ctr + 20) 0 (p.length + 1) 1 none) hx.cells1 hx.one rfl rfl)
     have kE : Keep st' sE := by rw [hsE]; exact (kD.new' _).new' _
     have vqx := Jdm hx hok hs (by omega)
     have vqp := Jkd hv' (by omega)
     have vqn : veq 1000000000 l[n].nv l[n].nv = true := QA _ (by have := Jcn hfo.names; have := hfs.names; omega)
     have hsC' := hsC.symm
     refine Kj_ (b := [0, 0, 0, 4, 0, 16, 48, 0, 128, 384, 1020, 0, 2048, 0, 14336, 30720, 63488, 131068, 262142, 524287]) (rs := [(2, 16), (0, 2), (18, 2)]) fun K1 gK => ?_
     simp (disch := omega) [hF, fh1, ll', lp', ln', lpv, hnd, hy1, hns, bs1, hsC', eA, llD, JpH, hcE, vqx, vqp, vqn, hkn, J2, JZ, Tryz.underlying23]
     refine gK _ _ ?_
     have gE1 : sE.box.get (sD.ctr + 1) = some (.cells [.int .i64 (kn : Int), .ms (st'.ctr + 20) 0 (p.length + 1) 1 none] 78 true (some 0)) := by rw [hsE, Js, if_pos (show sD.ctr + 1 = (sD.new (.cells [x] 22 true (some 0))).ctr from rfl)]
     have gE0 : sE.box.get sD.ctr = some (.cells [x] 22 true (some 0)) := by rw [hsE, Js, if_neg (by rw [JY]; omega), Js, if_pos rfl]
     have cE : sE.ctr = sD.ctr + 2 := by rw [hsE, JY, JY]
     have kDE : Keep sD sE := by rw [hsE]; exact ((Keep.refl sD).new' _).new' _
     have hFn : ∀ i, st'.ctr ≤ i → ¬ F s' i := fun i hi h => by have := C.low s' false st' hI' i h; omega
     have hmkE : MarksOk st.ctr (F s') sE ds sE.ctr := hmk.outs (Outs.of kE) (fun i hi => .inl hi) (Nat.le_refl _) (by omega)
     exact gm3 _ _ ⟨sD.ctr + 1, sD.ctr, .ms (st'.ctr + 20) 0 (p.length + 1) 1 none, by simp [FsD, hF], C.stable s' false st' sE hI' kE.ctr (fun j hj => kE.box j (C.low s' false st' hI' j hj)), hO'.trans (.of kE), ⟨by rw [kE.box _ (by omega)]; exact by', by rw [kE.box _ cf']; exact bf', by omega⟩, hmkE, ⟨gE1, gE0, by omega, by omega, by omega, by omega⟩, vD.keep kDE, ⟨hFn (st'.ctr + 20) (by omega), (by show ¬ (st'.ctr + 20 = st.ctr); omega), hFn _ (by omega), hFn _ (by omega)⟩⟩
    ·as_aux_lemma =>
     clear hF
     rintro fr st' ⟨xb2, lb2, pv2, hF, hI4, hO4, ⟨by4, bf4, cf4⟩, hmk4, ⟨bx4, bl4, cx4, cl4, dl4, dx4⟩, hv4, ⟨hap4, hap4y, hx4, hl4⟩⟩
     simp only [FsD] at hF
     refine Kb_ fun K4 gn4 gx4 go4 => ?_
     have gr4 := fun fr st h => go4 AE.ret fr st trivial (gr2 fr st h)
     refine Jp9 ihk hgk.1 C (s := s') (by simp [hF]) hI4 by4 (by omega) hy' cx4 cl4 hx4 hl4 (by omega) (by omega) bx4 bl4 hv4 hap4 hap4y (by simp [hF]) (by simp [hF]) ?_ ?_ ?_ ?_
     ·as_aux_lemma =>
      intro id' fr' st' a pv' K hoa hop h45 h3 hd hg hk
      have hF : fr'.at 3 = .ptr st.ctr 0 ∧ fr'.at 45 = .agg [a, pv'] ∧ fr'.ds = [] ∧ fr'.gl = gl := ⟨h3, h45, hd, hg⟩
      have ga : ({ ctr := st'.ctr + 1, box := st'.box.put st'.ctr (.cells [.int .i64 0, .nils] 78 true (some 0)) } : St).box.get st'.ctr = some (.cells [.int .i64 0, .nils] 78 true (some 0)) := by simp [Tr.get_put]
      have wa := Jgu hoa hop ga
      refine Ka_ (gs := [none, none]) fun K1 gK => ?_
      simp (disch := omega) [hF, Jl, Jpd, wa, Jl, JZ]
      refine gK _ _ ?_
      exact hk _ _ (by simp) (by simp [hF]) (by simp [hF]) (by simp [hF]) rfl (fun i hi => by rw [Jm, if_neg hi]; show (st'.box.put st'.ctr _).get i = _; rw [Tr.get_put, if_neg hi]) (by rw [Jm, if_pos rfl])
     ·as_aux_lemma =>
      intro id' fr' st' v st2 a pv' nb K h3 h7 hd hg hyb hnb hcall hkt hkf
      have hF : fr'.at 3 = .ptr st.ctr 0 ∧ fr'.at 7 = .ptr nb 0 ∧ fr'.ds = [] ∧ fr'.gl = gl := ⟨h3, h7, hd, hg⟩
      have lya := Jb (P := Tryz.prog) (off := 0) a79 z79 hyb rfl
      have lna := Jk6 hnb
      have gq : ∀ fr st, st = st2 ∧ v = false → K .ret fr st := fun fr st h => by rw [h.1]; exact hkf h.2 fr
      refine Kb_ fun K5 gn5 gx5 go5 => ?_
      have gr5 := fun fr st h => go5 AE.ret fr st trivial (gq fr st h)
      refine Ks_ (Ka_ (gs := [none, none, none, none]) fun K1 gK => ?_)
      simp (disch := omega) [hF, lya, lna, hcall]
      refine gK _ _ ?_
      cases v with
      | true =>
       refine Kf_ (by simp (disch := omega) []) (Kk_ (gn5 _ _ ?_))
       exact hkt rfl _
      | false =>
       refine Kt_ (by simp (disch := omega) []) ?_
       exact Kq_ (gr5 _ _ ⟨rfl, rfl⟩)
     ·as_aux_lemma =>
      intro st2 s5 hr2 ho5 hI5 hO5 hS5 hmk5 hc5
      obtain ⟨f1, f2, f3, f4, f18, f19, f20, f44, fds, fgl⟩ := hF
      generalize hfr6 : ({ fr with ds := .mark st'.ctr :: fr.ds } : Fr) = fr6
      have hF : fr6.at 1 = .ptr xb 0 ∧ fr6.at 2 = .ptr lb 0 ∧ fr6.at 3 = .ptr st.ctr 0 ∧ fr6.at 4 = .ptr q2.ctr 0 ∧ fr6.at 18 = l[n].kv ∧ fr6.at 19 = .int .i64 (l[n].kids.length : Int) ∧ fr6.at 20 = .int .i64 (i : Int) ∧ fr6.ds = .mark st'.ctr :: ds ∧ fr6.gl = gl := by
       subst hfr6
       exact ⟨f1, f2, f3, f4, f18, f19, f20, by show Df.mark st'.ctr :: fr.ds = _; rw [fds], fgl⟩
      refine gn4 _ _ (gn2 _ _ (Ka_ (gs := [none, none]) fun K1 gK => ?_))
      simp (disch := omega) [hF]
      refine gK _ _ ?_
      have hcc := hO4.ctr
      have hS6 : ∀ m, F s5 m → F s m ∨ st.ctr ≤ m := fun j hj => (hS5 j hj).elim (hS' j) fun h => .inr (by omega)
      have hmf : ¬ F s5 st'.ctr := fun h => (hS5 _ h).elim (fun h2 => by have := C.low s' false st' hI4 _ h2; omega) fun h2 => by omega
      have hmk6 : MarksOk st.ctr (F s5) st2 (.mark st'.ctr :: ds) st2.ctr := ⟨by omega, hmf, hmk5, hmk4.outs hO5 (fun i hi => (hS5 i hi).imp_right fun h => by omega) (Nat.le_refl _) (Nat.le_refl _)⟩
      refine gk1 (i + 1) _ _ (by omega) ⟨.mark st'.ctr :: ds, s5, by simp [FsD, hF], by omega, hI5, ⟨hO4.trans' hO5 hS', hS6, fun h => (hS5 _ h).elim hx' fun h2 => by omega, fun h => (hS5 _ h).elim hl' fun h2 => by omega, fun h => (hS5 _ h).elim hy' fun h2 => by omega, fun h => (hS5 _ h).elim hf' fun h2 => by omega, Apart.sub (st := st) (fun i hi => (hS5 i hi).imp_right fun h => by omega) hv hp'⟩, ⟨by rw [hO5.box _ (by omega) hy']; exact by4, by rw [hO5.box _ cf4 hf']; exact bf4, by omega⟩, hmk6, ⟨by rw [hrun, Jke hlt hlt', Jc2, hkn, Int.toNat_natCast, hr2, ho5], by rw [ho5]; exact hgk.2 hr2⟩⟩
     ·as_aux_lemma =>
      intro st2 s5 hr2 ho5 hI5 hO5 hS5 hmk5 hc5
      refine gr4 _ _ ?_
      have hcc := hO4.ctr
      have hS6 : ∀ m, F s5 m → F s m ∨ st.ctr ≤ m := fun j hj => (hS5 j hj).elim (hS' j) fun h => .inr (by omega)
      have hmf : ¬ F s5 st'.ctr := fun h => (hS5 _ h).elim (fun h2 => by have := C.low s' false st' hI4 _ h2; omega) fun h2 => by omega
      have hmk6 : MarksOk st.ctr (F s5) st2 (.mark st'.ctr :: ds) st2.ctr := ⟨by omega, hmf, hmk5, hmk4.outs hO5 (fun i hi => (hS5 i hi).imp_right fun h => by omega) (Nat.le_refl _) (Nat.le_refl _)⟩
      obtain ⟨st3, m1, m2⟩ := fin st2 (.mark st'.ctr :: ds) st2.ctr s5 true hI5 (hO4.trans' hO5 hS') hS6 hmk6 (by
       rw [hrun, Jke hlt hlt', Jc2, hkn, Int.toNat_natCast, hr2]
       exact Prod.ext ho5.symm hr2)
      refine ⟨.inl rfl, st3, ?_, [], rfl, m2 _⟩
      show JC (Df.mark st'.ctr :: fr.ds) st2 = _
      rw [hF.2.2.2.2.2.2.2.2.1]
      exact m1
   ·
    refine Kf_ (by simp (disch := omega) [hlt]) ?_
    exact Kx_ (gx1 _ _ ⟨ds, s', by simp [FsD, hF, hlt], hI', hO', hS', hmk, by rw [hrun, Jpe (by omega)]; rfl⟩)
  ·as_aux_lemma =>
   clear hF
   rintro fr st' ⟨ds, s', hF, hI', hO', hS', hmk, hrun⟩
   simp only [FsD] at hF
   obtain ⟨st3, m1, m2⟩ := fin st' ds st'.ctr s' false hI' hO' hS' hmk hrun
   exact gn fr st' ⟨.inr rfl, st3, by rw [hF.1]; exact m1, [], rfl, m2 _⟩
 | false =>
  refine Kt_ (by simp (disch := omega) []) ?_
  obtain ⟨st3, m1, m2⟩ := fin q2 [] q2.ctr s1 true hI2 hst2 (fun i hi => (hsub2 i hi).imp_right fun h => by omega) (by show st.ctr ≤ q2.ctr; omega) (by rw [htour, Qm, hb, ho1])
  refine Kq_ (gr _ _ ⟨.inl rfl, st3, ?_, [], rfl, m2 _⟩)
  simp [hF]
  exact m1
end Go.Vm
namespace Go.Vm
open Go Go.Proofs Go.Pa
variable [Memo] [NY]
theorem Jh3 (gl : Gl) (x : V) (l : List Fw) (hx : Row Fw.cells x l) (hok : ∀ f ∈ l, f.ok) (hs : ∀ f ∈ l, f.small) (hl : l.length ≤ 60) (hm : MayF l) : ∀ (d n : Nat) (p : List S), n < l.length → p.length ≤ n → l.length - n ≤ d → Prod gl x l d n p
 | 0, n, p, hn, _, hd => by omega
 | d + 1, n, p, hn, hp, hd => fun σ τ obs step I F id s st xb lb pv pre hyok C hI hxc hlc hxf hlf hxb hlb hv hap =>
  JlY gl x l hx hok hs hl hm d n p hn hp (fun j hj hj' => by
   have hk := hm.kid n hn _ (List.getElem_mem hj)
   exact Jh3 gl x l hx hok hs hl hm d _ _ (by omega) (by simp; omega) (by omega)) st hyok C hI hxc hlc hxf hlf hxb hlb hv hap
omit [NY] in
theorem Jht {gl : Gl} {x : V} {l : List Fw} {d n : Nat} {p : List S} (hp : Prod gl x l d n p)  {σ τ : Type} {obs : σ → τ} {step : τ → Nat × List S → τ × Bool} {pre : τ → Nat × List S → Prop} {J : σ → Bool → St → Prop} {G : σ → Nat → Prop}
  (low : ∀ s b st, J s b st → ∀ i, G s i → i < st.ctr) (stable : ∀ s b st st', J s b st → st.ctr ≤ st'.ctr → (∀ i, G s i → st'.box.get i = st.box.get i) → J s b st')
  {s : σ} (hyok : GoodRun step pre (obs s) (QN l d n p)) {st : St} {fr : Fr} {g : Operand} {q dst : Tmp} {A B : Code} {k : List Code} {Q : AE → Fr → St → Prop} {xb lb : Nat} {pv : V} (hg : ev fr g = some (.fn 69 [] [.ptr xb 0, .ptr lb 0])) (hI : J s false st)
  (hxc : xb < st.ctr) (hlc : lb < st.ctr) (hxf : ¬ G s xb) (hlf : ¬ G s lb)
  (hxb : st.box.get xb = some (.cells [.int .i64 (n : Int), pv] 78 true (some 0))) (hlb : st.box.get lb = some (.cells [x] 22 true (some 0))) (hv : Vw st pv p) (hap : Apart (G s) pv)
  (Φ : Fr → Prop) (hΦ : ∀ v, Φ ⟨JcB [q] [v] fr.t, [], gl⟩) (hgl : fr.gl = gl)
  (hA : ∀ (id' : Nat) (fr' : Fr) (st' : St) (a pv' : V) (K : AE → Fr → St → Prop), JZ a = true → JZ pv' = true → Fr.at fr' q = .agg [a, pv'] → Φ fr' →
   (∀ fr2 st2, Fr.at fr2 dst = .ptr st'.ctr 0 → Φ fr2 → st2.ctr = st'.ctr + 1 → (∀ i, i ≠ st'.ctr → st2.box.get i = st'.box.get i) → st2.box.get st'.ctr = some (.cells [a, pv'] 78 true (some 0)) → K .normal fr2 st2) → DoK Tryz.prog (some id') [A] fr' st' K)
  (hB : ∀ (id' : Nat) (fr' : Fr) (s : σ) (st' : St) (y : Nat × List S) (pv' : V) (nb : Nat) (K : AE → Fr → St → Prop), Φ fr' → Fr.at fr' dst = .ptr nb 0 → J s false st' → st'.box.get nb = some (.cells [.int .i64 (y.1 : Int), pv'] 78 true (some 0)) → ¬ G s nb → nb < st'.ctr →
   Vw st' pv' y.2 → Apart (G s) pv' → y.2.length ≤ 60 → pre (obs s) y →
   (∀ fr2 st2 s2, (step (obs s) y).2 = true → obs s2 = (step (obs s) y).1 → J s2 false st2 → Outs (G s) st' st2 → (∀ i, G s2 i → G s i ∨ st'.ctr ≤ i) → K .normal fr2 st2) →
   (∀ fr2 st2 s2, (step (obs s) y).2 = false → obs s2 = (step (obs s) y).1 → J s2 true st2 → Outs (G s) st' st2 → (∀ i, G s2 i → G s i ∨ st'.ctr ≤ i) → K .ret fr2 st2) → DoK Tryz.prog (some id') [B] fr' st' K)
  (hN : ∀ st2 s2, (Qm step (obs s) (QN l d n p)).2 = false → obs s2 = (Qm step (obs s) (QN l d n p)).1 → J s2 false st2 → Outs (G s) st st2 → (∀ i, G s2 i → G s i ∨ st.ctr + 2 ≤ i) → st2.box.get st.ctr = some (.mark false) → st.ctr + 2 ≤ st2.ctr → DoK Tryz.prog none k { fr with ds := .mark st.ctr :: fr.ds } st2 Q)
  (hR : ∀ st2 s2, (Qm step (obs s) (QN l d n p)).2 = true → obs s2 = (Qm step (obs s) (QN l d n p)).1 → J s2 true st2 → Outs (G s) st st2 → (∀ i, G s2 i → G s i ∨ st.ctr + 2 ≤ i) → st2.box.get st.ctr = some (.mark false) → st.ctr + 2 ≤ st2.ctr → Q .ret { fr with ds := .mark st.ctr :: fr.ds } st2) :
  DoK Tryz.prog none (.rangeFunc g #[q] A B :: k) fr st Q := by
 have hFc := low s false st hI
 have hnf : ∀ i, st.ctr ≤ i → ¬ G s i := fun i hi hf => by have := hFc i hf; omega
 let lp := fun (b : Bool) => Bx.loop (cond b .done .ready) (cond b (some .ret) none) fr.t [q] A B
 let id' := st.ctr + 1
 let F' := fun (s : σ) i => G s i ∨ i = id'
 let I' := fun (s : σ) (b : Bool) (st' : St) => J s b st' ∧ st'.box.get id' = some (lp b) ∧ id' < st'.ctr ∧ ¬ G s id'
 have C' : Cons Tryz.prog gl id' (Nat × List S) Jnc σ τ obs F' step pre I' := by
  refine ⟨fun s b st' h i hi => ?_, fun s b st1 st2 h hc hb => ?_, fun s st1 y args h hval hpre => ?_⟩
  ·rcases hi with hi | rfl
   ·exact low s b st' h.1 i hi
   ·exact h.2.2.1
  ·exact ⟨stable s b st1 st2 h.1 hc fun i hi => hb i (.inl hi), by rw [hb id' (.inr rfl)]; exact h.2.1, Nat.lt_of_lt_of_le h.2.2.1 hc, h.2.2.2⟩
  ·obtain ⟨h1, h2, h5, hidF⟩ := h
   obtain ⟨pw, rfl, hvw, hpa, hpl⟩ := hval
   have hone : JZ pw = true := hvw.one
   have hFi : ∀ i, G s i → i < st1.ctr := low s false st1 h1
   obtain ⟨v, st4, hc, hv1, s4, hv0, hv2, hv3, hv4⟩ := JcC (P := Tryz.prog) (gl := gl) (id := id') (args := [.agg [.int .i64 (y.1 : Int), pw]]) (st := st1) (R := fun v st2 => v = (step (obs s) y).2 ∧ ∃ s2, obs s2 = (step (obs s) y).1 ∧ I' s2 (!v) st2 ∧ Outs (F' s) st1 st2 ∧ ∀ i, F' s2 i → F' s i ∨ st1.ctr ≤ i) (pend := none) (t := fr.t) (ps := [q]) (a := A) (b := B) h2 rfl (fun K hK => by
    refine hA id' _ st1 (.int .i64 (y.1 : Int)) pw K rfl hone (by rw [Jag, if_pos rfl]) (hΦ _) fun fr2 st2 f7 fΦ c2 hb2 hb3 => ?_
    have hid1 : st2.box.get id' = some (lp false) := by rw [hb2 id' (by omega)]; exact h2
    refine hK fr2 st2 hid1 fun K' hn hr => ?_
    have hst3 : ∀ i, i ≠ id' → (st2.put id' (.loop .busy none fr.t [q] A B)).box.get i = st2.box.get i := fun i hi => by rw [Jm, if_neg hi]
    have hI3 : J s false (st2.put id' (.loop .busy none fr.t [q] A B)) := stable s false st1 _ h1 (by rw [JB]; omega) fun i hi => by
     rw [hst3 i (by rintro rfl; exact hidF hi), hb2 i (by have := hFi i hi; omega)]
    have hO3 : Outs (fun i => i = id') st1 (st2.put id' (.loop .busy none fr.t [q] A B)) := ⟨by rw [JB]; omega, fun i hi hf => by rw [hst3 i hf, hb2 i (by omega)]⟩
    have hap' : Apart (fun i => i = id') pw := by
     cases pw <;> first | trivial | (intro e; exact hpa (.inr e))
    have hapF : Apart (G s) pw := by
     cases pw <;> first | trivial | (intro e; exact hpa (.inl e))
    have hgen : ∀ (b : Bool) (st4 : St) (s4 : σ), J s4 b st4 → Outs (G s) (st2.put id' (.loop .busy none fr.t [q] A B)) st4 → (∀ i, G s4 i → G s i ∨ (st2.put id' (.loop .busy none fr.t [q] A B)).ctr ≤ i) →
      st4.box.get id' = some (.loop .busy none fr.t [q] A B) ∧ I' s4 b (st4.put id' (lp b)) ∧ Outs (F' s) st1 (st4.put id' (lp b)) ∧ ∀ i, F' s4 i → F' s i ∨ st1.ctr ≤ i := fun b st4 s4 hI4 hO4 hS4 => by
     rw [JB, c2] at hS4
     have hid4 : st4.box.get id' = some (.loop .busy none fr.t [q] A B) := by rw [hO4.box id' (by rw [JB, c2]; omega) hidF, Jm, if_pos rfl]
     have hc2 : st1.ctr + 1 ≤ st4.ctr := by have := hO4.ctr; rw [JB, c2] at this; exact this
     have hid5 : ¬ G s4 id' := fun h => (hS4 _ h).elim hidF (by omega)
     refine ⟨hid4, ⟨stable _ _ st4 _ hI4 (Nat.le_refl _) (fun i hi => by rw [Jm, if_neg (by rintro rfl; exact hid5 hi)]), by rw [Jm, if_pos rfl], by rw [JB]; omega, hid5⟩, ?_, ?_⟩
     ·refine Outs.put ⟨by omega, fun i hi hf => ?_⟩ (.inr (.inr rfl)) _
      rw [hO4.box i (by rw [JB, c2]; omega) (fun h => hf (.inl h)), hst3 i (fun h => hf (.inr h)), hb2 i (by omega)]
     ·intro i hi
      rcases hi with hi | hi
      ·rcases hS4 i hi with h | h
       ·exact .inl (.inl h)
       ·exact .inr (by omega)
      ·exact .inl (.inr hi)
    refine hB id' fr2 s _ y pw st1.ctr K' fΦ f7 hI3 (by rw [hst3 _ (by omega)]; exact hb3) (fun h => by have := hFi _ h; omega) (by rw [JB]; omega) (hvw.out hO3 hap') hapF hpl hpre (fun fr5 st4 s4 hs4 ho4 hI4 hO4 hS4 => ?_) (fun fr5 st4 s4 hs4 ho4 hI4 hO4 hS4 => ?_)
    ·obtain ⟨a1, a2, a3, a4⟩ := hgen false st4 s4 hI4 hO4 hS4
     exact hn fr5 st4 a1 ⟨hs4.symm, s4, ho4, a2, a3, a4⟩
    ·obtain ⟨a1, a2, a3, a4⟩ := hgen true st4 s4 hI4 hO4 hS4
     exact hr fr5 st4 a1 ⟨hs4.symm, s4, ho4, a2, a3, a4⟩)
   refine ⟨s4, st4, by rw [hc, hv1], hv0, by rw [← hv1]; exact hv2, hv3, hv4⟩
 let st1 : St := (st.new (.mark false)).new (.loop .ready none fr.t [q] A B)
 have hg1 : ∀ i, i < st.ctr → st1.box.get i = st.box.get i := fun i hi => by
  show ((st.new _).new _).box.get i = _
  rw [Js, if_neg (by rw [JY]; omega), Js, if_neg (by omega)]
 have hc1 : st1.ctr = st.ctr + 2 := rfl
 have hI1 : I' s false st1 := ⟨stable s false st st1 hI (by omega) fun i hi => hg1 i (hFc i hi), by show ((st.new _).new _).box.get (st.ctr + 1) = _; rw [Js, if_pos (show st.ctr + 1 = (st.new (.mark false)).ctr from rfl)]; rfl, by show st.ctr + 1 < _; omega, hnf _ (by show st.ctr ≤ st.ctr + 1; omega)⟩
 have hO1 : Outs (fun _ => False) st st1 := ⟨by omega, fun i hi _ => hg1 i hi⟩
 have hid' : id' = st.ctr + 1 := rfl
 have hpidc : Apart (fun i => i = id') pv := by
  cases hv with
  | nils => trivial
  | sl => trivial
  | ms id off cap cs e fl fz l hb hl hlt hid hcap => show ¬ id = id'; omega
 obtain ⟨v, st2, hc, s2, ho2, hI2, hO2, hS2⟩ := hp σ τ obs step I' F' id' s st1 xb lb pv pre hyok C' hI1 (by omega) (by omega) (by rintro (h | h); exact hxf h; omega) (by rintro (h | h); exact hlf h; omega) (by rw [hg1 xb hxc]; exact hxb) (by rw [hg1 lb hlc]; exact hlb)
  (hv.out hO1 (by cases pv <;> first | trivial | exact not_false)) (by cases pv <;> first | trivial | (rintro (h | h); exact hap h; exact hpidc h))
 have hidF2 := hI2.2.2.2
 have hsub2 : ∀ i, G s2 i → G s i ∨ st.ctr + 2 ≤ i := fun i hi => by
  rcases hS2 i (.inl hi) with (h | h) | h
  ·exact .inl h
  ·subst h; exact absurd hi hidF2
  ·exact .inr (by omega)
 have hmk : st2.box.get st.ctr = some (.mark false) := by
  rw [hO2.box st.ctr (by omega) (by rintro (h | h); exact hnf _ (Nat.le_refl _) h; omega)]
  show ((st.new _).new _).box.get st.ctr = _
  rw [Js, if_neg (by rw [JY]; omega), Js, if_pos rfl]
 have hout : ∀ bx, Outs (G s) st (st2.put id' bx) := fun bx => by
  refine Outs.put ⟨by have := hO2.ctr; omega, fun i hi hf => ?_⟩ (.inl (by omega)) _
  rw [hO2.box i (by omega) (by rintro (h | h); exact hf h; omega), hg1 i hi]
 have hbox := hI2.2.1
 have hctr : st.ctr + 2 ≤ st2.ctr := by have := hO2.ctr; omega
 have hIs : ∀ b bx, J s2 b st2 → J s2 b (st2.put id' bx) := fun b bx h => stable _ _ st2 _ h (Nat.le_refl _) fun i hi => by
  rw [Jm, if_neg (by rintro rfl; exact hidF2 hi)]
 refine DoK.range (id := id') (st1 := st1) (fr' := { fr with ds := .mark st.ctr :: fr.ds }) hg (by kernel_rfl) rfl (by rw [hgl]; exact J1 hc) ?_
 refine ⟨_, _, _, _, _, _, hbox, ?_, ?_⟩
 ·cases (Qm step (obs s) (QN l d n p)).2 <;> simp
 ·have hI3 := hI2.1
  cases hst : (Qm step (obs s) (QN l d n p)).2 with
  | false =>
   rw [hst] at hI3
   exact .inl ⟨rfl, hN _ s2 hst ho2 (hIs _ _ hI3) (hout _) hsub2 (by rw [Jm, if_neg (by omega)]; exact hmk) (by rw [JB]; exact hctr)⟩
  | true =>
   rw [hst] at hI3
   exact .inr ⟨rfl, hR _ s2 hst ho2 (hIs _ _ hI3) (hout _) hsub2 (by rw [Jm, if_neg (by omega)]; exact hmk) (by rw [JB]; exact hctr)⟩
omit [Memo] [NY] in
theorem Jem {l : List Fw} (hm : MayF l) : ∀ (d n : Nat) (p : List S) (y : Nat × List S), y ∈ QN l d n p → n ≤ y.1 ∧ (n < l.length → y.1 < l.length)
 | 0, n, p, y, h => by simp [QN] at h
 | d + 1, n, p, y, h => by
  simp only [QN, List.mem_cons] at h
  rcases h with rfl | h
  ·exact ⟨Nat.le_refl _, id⟩
  ·by_cases hn : n < l.length
   ·rw [List.getElem?_eq_getElem hn] at h
    simp only [List.mem_flatMap] at h
    obtain ⟨q, hq, hy⟩ := h
    have hk := hm.kid n hn q.1 (List.of_mem_zip hq).1
    obtain ⟨h1, h2⟩ := Jem hm d _ _ y hy
    exact ⟨by omega, fun _ => h2 (by omega)⟩
   ·rw [List.getElem?_eq_none (by omega)] at h
    simp at h
end Go.Vm
