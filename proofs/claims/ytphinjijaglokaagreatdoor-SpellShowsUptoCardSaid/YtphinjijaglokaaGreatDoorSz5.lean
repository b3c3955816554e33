/- Ranges over functions: those who take what a function yields, and what they make of it. -/
import Derived.Test.YtphinjijaglokaaGreatDoorSz4
namespace Go.Vm
open Go
theorem JV {cs : List V} : (V.agg cs).cells = cs := rfl
theorem JaI {k : IntKind} {n : Int} : (V.int k n).cells = [.int k n] := rfl
theorem QI : V.nils.cells = [.nils] := rfl
theorem Qf {id : Nat} : (V.yld id).cells = [.yld id] := rfl
structure Outs (F : Nat → Prop) (st st' : St) : Prop where
 ctr : st.ctr ≤ st'.ctr
 box : ∀ i, i < st.ctr → ¬ F i → st'.box.get i = st.box.get i
theorem Outs.trans {F : Nat → Prop} {a b c : St} (h : Outs F a b) (k : Outs F b c) : Outs F a c := ⟨Nat.le_trans h.ctr k.ctr, fun i hi hf => (k.box i (Nat.lt_of_lt_of_le hi h.ctr) hf).trans (h.box i hi hf)⟩
theorem Outs.of {F : Nat → Prop} {a b : St} (h : Keep a b) : Outs F a b := ⟨h.ctr, fun i hi _ => h.box i hi⟩
theorem Outs.put {F : Nat → Prop} {a b : St} (h : Outs F a b) {id : Nat} (hid : a.ctr ≤ id ∨ F id) (x : Bx) : Outs F a (b.put id x) := ⟨h.ctr, fun i hi hf => by
 rw [put_get, if_neg]
 ·exact h.box i hi hf
 ·rintro rfl
  rcases hid with hid | hid
  ·omega
  ·exact hf hid⟩
theorem Vw.one {st : St} {x : V} {l : List S} (h : Vw st x l) : Qn x = true := by cases h <;> rfl
def Apart (F : Nat → Prop) : V → Prop
 | .ms id _ _ _ _ => ¬ F id
 | _ => True
theorem Vw.out {F : Nat → Prop} {a b : St} (h : Outs F a b) {x : V} {l : List S} (hv : Vw a x l) (ha : Apart F x) : Vw b x l := by
 cases hv with
 | nils => exact .nils
 | sl l ex => exact .sl l ex
 | ms id off cap cs e fl fz l hb hl hlt hid hcap => exact .ms id off cap cs e fl fz l (by rw [h.box id hid ha]; exact hb) hl hlt (Nat.lt_of_lt_of_le hid h.ctr) hcap
variable [Memo]
structure Cons (P : Program) (gl : Gl) (id : Nat) (α : Type) (val : (Nat → Prop) → St → α → List V → Prop) (σ τ : Type) (obs : σ → τ) (F : σ → Nat → Prop) (step : τ → α → τ × Bool) (pre : τ → α → Prop) (I : σ → Bool → St → Prop) : Prop where
 low : ∀ s b st, I s b st → ∀ i, F s i → i < st.ctr
 stable : ∀ s b st st', I s b st → st.ctr ≤ st'.ctr → (∀ i, F s i → st'.box.get i = st.box.get i) → I s b st'
 round : ∀ s st x args, I s false st → val (F s) st x args → pre (obs s) x → ∃ s' st', ihCall (W P) gl (.y id) args st = .val (.bool (step (obs s) x).2) st' ∧ obs s' = (step (obs s) x).1 ∧ I s' (!(step (obs s) x).2) st' ∧ Outs (F s) st st' ∧ ∀ i, F s' i → F s i ∨ st.ctr ≤ i
def JaC {σ α : Type} (step : σ → α → σ × Bool) : σ → List α → σ × Bool
 | s, [] => (s, false)
 | s, x :: r => match (step s x).2 with
  | true => JaC step (step s x).1 r
  | false => ((step s x).1, true)
omit [Memo] in
theorem Jf4 {σ α : Type} (step : σ → α → σ × Bool) : ∀ (s : σ) (a b : List α), JaC step s (a ++ b) = match (JaC step s a).2 with
  | true => JaC step s a
  | false => JaC step (JaC step s a).1 b
 | s, [], b => rfl
 | s, x :: r, b => by
  simp only [List.cons_append, JaC]
  cases (step s x).2 with
  | false => rfl
  | true => exact Jf4 step _ r b
def GoodRun {τ α : Type} (step : τ → α → τ × Bool) (pre : τ → α → Prop) : τ → List α → Prop
 | _, [] => True
 | s, x :: r => pre s x ∧ ((step s x).2 = true → GoodRun step pre (step s x).1 r)
omit [Memo] in
theorem GoodRun.app {τ α : Type} {step : τ → α → τ × Bool} {pre : τ → α → Prop} : ∀ {s : τ} {a b : List α}, GoodRun step pre s (a ++ b) → GoodRun step pre s a ∧ ((JaC step s a).2 = false → GoodRun step pre (JaC step s a).1 b)
 | s, [], b, h => ⟨trivial, fun _ => h⟩
 | s, x :: r, b, h => by
  obtain ⟨h1, h2⟩ := h
  cases hs : (step s x).2 with
  | true =>
   obtain ⟨h3, h4⟩ := GoodRun.app (h2 hs)
   refine ⟨⟨h1, fun _ => h3⟩, ?_⟩
   simp only [JaC, hs]
   exact h4
  | false =>
   refine ⟨⟨h1, fun h => by rw [hs] at h; cases h⟩, ?_⟩
   simp only [JaC, hs]
   intro h; cases h
def MarksOk (lo : Nat) (F : Nat → Prop) (st : St) : List Df → Nat → Prop
 | [], hi => lo ≤ hi
 | .mark m :: ds, hi => m < hi ∧ ¬ F m ∧ st.box.get m = some (.mark false) ∧ MarksOk lo F st ds m
 | _, _ => False
omit [Memo] in
theorem MarksOk.le {lo : Nat} {F : Nat → Prop} {st : St} : ∀ {ds : List Df} {hi : Nat}, MarksOk lo F st ds hi → lo ≤ hi
 | [], _, h => h
 | .mark _m :: _ds, _hi, h => Nat.le_of_lt (Nat.lt_of_le_of_lt (MarksOk.le h.2.2.2) h.1)
 | .call _ _ :: _, _, h => h.elim
omit [Memo] in
theorem MarksOk.outs {lo : Nat} {F F' : Nat → Prop} {st st' : St} (ho : Outs F st st') (hf : ∀ i, F' i → F i ∨ st.ctr ≤ i) : ∀ {ds : List Df} {hi hi' : Nat}, MarksOk lo F st ds hi → hi ≤ st.ctr → hi ≤ hi' → MarksOk lo F' st' ds hi'
 | [], _, _, h, _, hh => Nat.le_trans h hh
 | .mark m :: ds, hi, _, h, hc, hh => ⟨Nat.lt_of_lt_of_le h.1 hh, fun hm => (hf m hm).elim h.2.1 (fun h2 => by have := h.1; omega), by rw [ho.box m (Nat.lt_of_lt_of_le h.1 hc) h.2.1]; exact h.2.2.1, MarksOk.outs ho hf h.2.2.2 (Nat.le_trans (Nat.le_of_lt h.1) hc) (Nat.le_refl m)⟩
 | .call _ _ :: _, _, _, h, _, _ => h.elim
omit [Memo] in
theorem Jit {lo : Nat} {F : Nat → Prop} : ∀ {ds : List Df} {hi : Nat} {st : St}, MarksOk lo F st ds hi → ∃ st3, Jdw ds st = some st3 ∧ st3.ctr = st.ctr ∧ (∀ i, i < lo ∨ hi ≤ i → st3.box.get i = st.box.get i) ∧ ∀ i, F i → st3.box.get i = st.box.get i
 | [], hi, st, h => ⟨st, rfl, rfl, fun _ _ => rfl, fun _ _ => rfl⟩
 | .mark m :: ds, hi, st, h => by
  obtain ⟨h1, h0, h2, h3⟩ := h
  have hsm : ∀ {ds : List Df} {k : Nat}, k ≤ m → MarksOk lo F st ds k → MarksOk lo F (st.put m (.mark true)) ds k := by
   intro ds
   induction ds with
   | nil => intro k _ h; exact h
   | cons d ds ih =>
    intro k hk h
    cases d with
    | mark j => exact ⟨h.1, h.2.1, by rw [put_get, if_neg (by have := h.1; omega)]; exact h.2.2.1, ih (by have := h.1; omega) h.2.2.2⟩
    | call f a => exact h.elim
  obtain ⟨st3, q1, q2, q3, q4⟩ := Jit (hsm (Nat.le_refl m) h3)
  refine ⟨st3, by simp only [Jdw, h2]; exact q1, q2, fun i hi' => ?_, fun i hi' => ?_⟩
  ·have := MarksOk.le h3
   rw [q3 i (by omega), put_get, if_neg (by omega)]
  ·rw [q4 i hi', put_get, if_neg (by rintro rfl; exact h0 hi')]
 | .call _ _ :: _, _, _, h => h.elim
omit [Memo] in
theorem Apart.sub {F F' : Nat → Prop} {st : St} (hf : ∀ i, F' i → F i ∨ st.ctr ≤ i) {x : V} {l : List S} (hv : Vw st x l) (ha : Apart F x) : Apart F' x := by
 cases hv with
 | nils => trivial
 | sl => trivial
 | ms id off cap cs e fl fz l hb hl hlt hid hcap => exact fun h => (hf id h).elim ha (fun h2 => by omega)
omit [Memo] in
theorem Outs.trans' {F F' : Nat → Prop} {a b c : St} (h : Outs F a b) (k : Outs F' b c) (hf : ∀ i, F' i → F i ∨ a.ctr ≤ i) : Outs F a c :=
 ⟨Nat.le_trans h.ctr k.ctr, fun i hi hn => (k.box i (Nat.lt_of_lt_of_le hi h.ctr) (fun hx => (hf i hx).elim hn (fun h2 => by omega))).trans (h.box i hi hn)⟩
def FsD (ds : List Df) (gl : Gl) : List (Nat × V) → Fr → Prop
 | [], fr => fr.ds = ds ∧ fr.gl = gl
 | (k, v) :: r, fr => Fr.at fr k = v ∧ FsD ds gl r fr
def JkC (P : Program) (fn : Func) (R : V → St → Prop) (e : AE) (fr : Fr) (st : St) : Prop := (e = .ret ∨ e = .normal) ∧ ∃ st3, Jdw fr.ds st = some st3 ∧ ∃ vs, Jd (Jv P fr st3) fn.results.toList = some vs ∧ R (JD vs) st3
theorem Jos {P : Program} {st : St} {gl : Gl} {f : Nat} {args : List V} {fn : Func} {c : Code} {R : V → St → Prop} (hn : (Memo.look f).run args st = none) (hf : P.funcs[f]? = some fn) (hb : fn.body = some c)
  (hs : (Nat.ble args.length fn.ntmps && Qg fn.ntmps c) = true)
  (h : ∀ R' : V → St → Prop, (∀ v st', R v st' → R' v st') → ∀ K : AE → Fr → St → Prop, (∀ fr st, JkC P fn R' .ret fr st → K .ret fr st) → (∀ fr st, JkC P fn R' .normal fr st → K .normal fr st) → DoK P none [c] (Jx gl args) st K) : Says P gl f args st R := by
 refine JmC hn hf hb hs (DoR.mono (h R (fun _ _ h => h) (JkC P fn R) (fun _ _ h => h) (fun _ _ h => h)) fun e fr' st' h => ?_)
 cases e with
 | normal => exact h
 | exit id => exact h
 | ret => exact h
 | panic v => exact h
theorem DoK.range {P : Program} {rd : Option Nat} {fr : Fr} {st : St} {Q : AE → Fr → St → Prop} {g : Operand} {ps : Array Tmp} {a b : Code} {k : List Code} {f : Nat} {first captured : List V} {id : Nat} {fr' : Fr} {st1 st2 : St} {v : V} (hg : ev fr g = some (.fn f first captured)) (hf : Qx P f = true)
  (he : JeU rd fr st ps.toList a b = some (id, fr', st1)) (hc : ihCall (W P) fr.gl (.f f) (first ++ [.yld id] ++ captured) st1 = .val v st2)
  (hl : ∃ s pend t ps' a' b', st2.box.get id = some (.loop s pend t ps' a' b') ∧ s ≠ .busy ∧ ((pend = none ∧ DoK P rd k fr' (st2.put id (.loop .exhausted pend t ps' a' b')) Q) ∨ (pend = some .ret ∧ Q .ret fr' (st2.put id (.loop .exhausted pend t ps' a' b'))))) : DoK P rd (.rangeFunc g ps a b :: k) fr st Q := by
 obtain ⟨s, pend, t, ps', a', b', h1, h2, h3⟩ := hl
 refine DoR.range hg hf he hc ⟨s, pend, t, ps', a', b', h1, h2, ?_⟩
 rcases h3 with h3 | h3
 ·exact .inl h3
 ·exact .inr (.inl h3)
theorem Jf5 {P : Program} {gl : Gl} {id : Nat} {args : List V} {st : St} {R : Bool → St → Prop} {pend : Option Code} {t : Tr V} {ps : List Tmp} {a b : Code} (hb : st.box.get id = some (.loop .ready pend t ps a b)) (hlen : args.length = ps.length)
  (ha : ∀ K : AE → Fr → St → Prop, (∀ fr' st', st'.box.get id = some (.loop .ready pend t ps a b) → (∀ K' : AE → Fr → St → Prop,
    (∀ fr2 st2, st2.box.get id = some (.loop .busy pend t ps a b) → R true (st2.put id (.loop .ready none t ps a b)) → K' .normal fr2 st2) →
    (∀ fr2 st2, st2.box.get id = some (.loop .busy pend t ps a b) → R false (st2.put id (.loop .done (some .ret) t ps a b)) → K' .ret fr2 st2) → DoK P (some id) [b] fr' (st'.put id (.loop .busy pend t ps a b)) K') → K .normal fr' st') → DoK P (some id) [a] ⟨Jc6 ps args t, [], gl⟩ st K) :
  ∃ v st', ihCall (W P) gl (.y id) args st = .val (.bool v) st' ∧ R v st' := by
 refine JmB hb hlen ?_
 have h1 := ha (fun e fr1 st1 => e = .normal ∧ ∃ pend' t' ps' a', st1.box.get id = some (.loop .ready pend' t' ps' a' b) ∧
   DoR P (some id) b fr1 (st1.put id (.loop .busy pend' t' ps' a' b)) fun e _ st2 => Jgh id R e st2) (fun fr' st' hb' hk => by
  refine ⟨rfl, pend, t, ps, a, hb', ?_⟩
  have h2 := hk (fun e _ st2 => Jgh id R e st2) (fun _ st2 hb2 hr => ⟨_, _, _, _, _, _, hb2, .inl ⟨rfl, hr⟩⟩) (fun _ st2 hb2 hr => ⟨_, _, _, _, _, _, hb2, .inr (.inl ⟨rfl, hr⟩)⟩)
  refine DoR.mono h2 fun e fr2 st2 h => ?_
  cases e with
  | normal => exact h
  | exit id => exact h
  | ret => exact h
  | panic v => exact h)
 refine DoR.mono h1 fun e fr2 st2 h => ?_
 cases e with
 | normal => exact h
 | exit id => exact h
 | ret => exact h
 | panic v => exact h
end Go.Vm
namespace Go.Vm
open Go Go.Proofs Go.Pa
variable [Memo]
omit [Memo] in
theorem Jfv (t : Tr V) (p : Tmp) (v : V) (gl : Gl) (k : Nat) : Fr.at ⟨Jc6 [p] [v] t, [], gl⟩ k = if k = p then v else t.at k := by
 show Tr.at (t.put p v) k = _
 simp only [Tr.at, Tr.get_put]
 by_cases h : k = p <;> simp [h]
end Go.Vm
namespace Go.Vm
open Go Go.Proofs Go.Pa
attribute [local simp] OkG Qh Qp OkD JY Qr JI Jm Jq vop Js JB ev evs toV Jl Fr.dsTo Fr.glTo Fr.toNone Ji Jj Jk Qk QL Jd JD Jv V.undef JW JM J7 JX J3 J9 J8 Qa JH J4 J5 JZ JO Qb Jt Ju Jw Jz JE Jr JL JN JK Qq
theorem JnO {st : St} {x : V} {l : List S} (hv : Vw st x l) (hl : l.length ≤ 1000) : ∃ y, JaS Tryz.prog 22 x none (.int .i64 (l.length : Int)) (.int .i64 (l.length : Int)) = some y ∧
  ∀ (st2 : St) (z : V) (nm : S), Vw st2 y l → Jbv st2 z [.str nm] → QE Tryz.prog st2 22 y z = some (.ms st2.ctr 0 (l.length + 1) 1 none, st2.new (.cells ((l ++ [nm]).map .str) 9 false (some 0))) := by
 obtain ⟨i, hi, h1, h2⟩ := i9
 have q1 : Nat.ble ((l.length + 1) * i.bytes) JA = true := Nat.ble_eq_true_of_le (Nat.le_trans (Nat.mul_le_mul (show l.length + 1 ≤ 1001 by omega) h2) (by simp [JA]))
 have q2 : Nat.ble (l.length + 1) JA = true := Nat.ble_eq_true_of_le (by simp [JA]; omega)
 have bb : ∀ n, Nat.ble n n = true := fun n => Nat.ble_eq_true_of_le (Nat.le_refl n)
 have b0 : Nat.ble 0 l.length = true := Nat.ble_eq_true_of_le (Nat.zero_le _)
 have hasn : JaQ (.int .i64 (l.length : Int)) = some l.length := rfl
 cases hv with
 | nils =>
  refine ⟨.nils, by
   show JaS Tryz.prog 22 .nils none (.int .i64 0) (.int .i64 0) = some .nils
   simp only [JaS, Tryz.underlying22, QD, z9, show JaQ (.int .i64 0) = some 0 from rfl], fun st2 z nm _ hz => ?_⟩
  simp only [QE, Tryz.underlying22, hi, h1, zs9, hz.1, JP, hz.2, List.length_singleton, show Nat.beq 1 0 = false from rfl, show Nat.ble ((0 + 1) * i.bytes) JA = true from q1, show Nat.ble (0 + 1) JA = true from q2]
  rfl
 | sl l ex =>
  refine ⟨.sl l.length (l.map .str) true, ?_, fun st2 z nm _ hz => ?_⟩
  ·simp only [JaS, Tryz.underlying22, QD, hasn, z9, bb, b0, Nat.mul_one, List.length_map, Nat.beq_refl, Bool.and_self, Nat.sub_zero, sub, List.drop_zero, List.take_of_length_le (Nat.le_of_eq (List.length_map _))]
  ·simp only [QE, Tryz.underlying22, hi, h1, zs9, hz.1, JP, hz.2, List.length_singleton, Nat.mul_one, List.length_map, Nat.beq_refl, show Nat.beq 1 0 = false from rfl, q1, q2]
   simp [St.new, V.cells]
 | ms id off cap cs e fl fz l hb hl hlt hid hcap =>
  refine ⟨.ms id off l.length 1 (some l.length), ?_, fun st2 z nm hv2 hz => ?_⟩
  ·simp only [JaS, Tryz.underlying22, QD, hasn, z9, bb, b0, hcap, Nat.beq_refl, Bool.and_self, Nat.sub_zero, Nat.zero_mul, Nat.add_zero]
  ·have hs2 := hv2.cells
   have hf : Jam 0 off l.length 1 1 (some l.length) = .fresh := by
    have : Nat.ble (l.length + 1) l.length = false := by
     cases hx : Nat.ble (l.length + 1) l.length with
     | false => rfl
     | true => exact absurd (Nat.le_of_ble_eq_true hx) (by omega)
    simp only [Jam, this]
   have hf2 : ∀ n, Jam n off l.length 1 1 (some l.length) = .fresh := fun n => hf
   have hbx : ∃ cs e fl fz, st2.box.get id = some (.cells cs e fl fz) := by
    simp only [JP] at hs2
    split at hs2
    ·rename_i cs e fl fz hq; exact ⟨cs, e, fl, fz, hq⟩
    ·cases hs2
   obtain ⟨cs2, e2, fl2, fz2, hb2⟩ := hbx
   simp only [QE, Tryz.underlying22, hi, h1, zs9, hz.1, hs2, hz.2, List.length_singleton, Nat.beq_refl, show Nat.beq 1 0 = false from rfl, q1, q2, hb2, hf2]
   simp [St.new, V.cells]
theorem Vw.slice3 {st : St} {x y : V} {l : List S} (hv : Vw st x l) (h : JaS Tryz.prog 22 x none (.int .i64 (l.length : Int)) (.int .i64 (l.length : Int)) = some y) : Vw st y l := by
 have bb : ∀ n, Nat.ble n n = true := fun n => Nat.ble_eq_true_of_le (Nat.le_refl n)
 have b0 : Nat.ble 0 l.length = true := Nat.ble_eq_true_of_le (Nat.zero_le _)
 have hasn : JaQ (.int .i64 (l.length : Int)) = some l.length := rfl
 cases hv with
 | nils =>
  have : JaS Tryz.prog 22 .nils none (.int .i64 0) (.int .i64 0) = some .nils := by simp only [JaS, Tryz.underlying22, QD, z9, show JaQ (.int .i64 0) = some 0 from rfl]
  obtain rfl := Option.some.inj (this.symm.trans h)
  exact .nils
 | sl l ex =>
  simp only [JaS, Tryz.underlying22, QD, hasn, z9, bb, b0, Nat.mul_one, List.length_map, Nat.beq_refl, Bool.and_self, Nat.sub_zero, sub, List.drop_zero, List.take_of_length_le (Nat.le_of_eq (List.length_map _)), Option.some.injEq] at h
  subst h
  exact .sl l true
 | ms id off cap cs e fl fz l hb hl hlt hid hcap =>
  simp only [JaS, Tryz.underlying22, QD, hasn, z9, bb, b0, hcap, Nat.beq_refl, Bool.and_self, Nat.sub_zero, Nat.zero_mul, Nat.add_zero, Option.some.injEq] at h
  subst h
  exact .ms id off (some l.length) cs e fl fz l hb hl hlt hid (bb _)
variable [Memo] [NY]
omit [Memo] [NY] in
theorem JoM {st : St} {x : V} {l : List S} (h : Vw st x l) (hl : l.length ≤ 1000) : veq 1000000000 x x = true := by
 refine Qz _ ?_
 cases h with
 | nils => exact Nat.le_of_ble_eq_true rfl
 | sl l ex =>
  have : ∀ l : List S, JdK (l.map V.str) = 2 * l.length + 1 := fun l => by
   induction l with
   | nil => rfl
   | cons a l ih => simp only [List.map_cons, JdK, vsz, ih, List.length_cons]; omega
  simp only [vsz, this]; omega
 | ms => exact Nat.le_of_ble_eq_true rfl
end Go.Vm
namespace Go.Vm
open Go Go.Proofs Go.Pa
variable [Memo] [NY]
end Go.Vm
