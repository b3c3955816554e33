/- A node's lines, by the program: what is yielded; a range within a range. -/
import Derived.Test.YtphinjijaglokaaGreatDoorSzS
import Derived.Test.YtphinjijaglokaaGreatDoorSz5
import Derived.Test.YtphinjijaglokaaGreatDoorSpX
import Derived.Test.YtphinjijaglokaaGreatDoorSz9
import Derived.Test.YtphinjijaglokaaGreatDoorSzM
namespace Go.Vm
open Go Go.Proofs Go.Pa
def Jm9 (_ : Nat → Prop) (_ : St) (x : List UInt8) (args : List V) : Prop := ∃ z : S, args = [.str z] ∧ z.toList = x ∧ z.n ≤ 2000000
abbrev e0 : St := ⟨0, .nil⟩
theorem k0 (st : St) : Keep e0 st := ⟨Nat.zero_le _, fun id h => absurd h (Nat.not_lt_zero id)⟩
variable [Memo]
def Jhn (gl : Gl) (t : Nt) (p : List S) : Prop :=
 ∀ (σ τ : Type) (obs : σ → τ) (step : τ → List UInt8 → τ × Bool) (I : σ → Bool → St → Prop) (F : σ → Nat → Prop) (id : Nat) (s : σ) (st : St) (pb tb : Nat) (pv : V) (cs : List V) (pre : τ → List UInt8 → Prop), GoodRun step pre (obs s) (Qv t p) → Cons Tryz.prog gl id (List UInt8) Jm9 σ τ obs F step pre I → I s false st →
  pb < st.ctr → tb < st.ctr → ¬ F s pb → ¬ F s tb → st.box.get pb = some (.cells [pv] 22 true (some 0)) → st.box.get tb = some (.cells cs 25 true (some 0)) → NR e0 cs t → Vw st pv p → Apart (F s) pv →
  Says Tryz.prog gl 47 [.yld id, .ptr pb 0, .ptr tb 0] st fun _ st' => ∃ s', obs s' = (JaC step (obs s) (Qv t p)).1 ∧ I s' (JaC step (obs s) (Qv t p)).2 st' ∧ Outs (F s) st st' ∧ ∀ i, F s' i → F s i ∨ st.ctr ≤ i
theorem JpP {gl : Gl} {t : Nt} {p : List S} (hp : Jhn gl t p) {σ τ : Type} {obs : σ → τ} {step : τ → List UInt8 → τ × Bool} {I : σ → Bool → St → Prop} {F : σ → Nat → Prop} {id : Nat} {s : σ} {pre : τ → List UInt8 → Prop} (hok : GoodRun step pre (obs s) (Qv t p)) (C : Cons Tryz.prog gl id (List UInt8) Jm9 σ τ obs F step pre I)
  {st : St} {fr : Fr} {g : Operand} {A B : Code} {k : List Code} {Q : AE → Fr → St → Prop} {pb tb yb : Nat} {pv : V} {cs : List V} (hg : ev fr g = some (.fn 47 [] [.ptr pb 0, .ptr tb 0])) (hI : I s false st)
  (hyb : st.box.get yb = some (.cells [.yld id] 64 true (some 0))) (hyc : yb < st.ctr) (hyf : ¬ F s yb) (hpc : pb < st.ctr) (htc : tb < st.ctr) (hpf : ¬ F s pb) (htf : ¬ F s tb) (hpy : pb ≠ yb) (hty : tb ≠ yb)
  (hpb : st.box.get pb = some (.cells [pv] 22 true (some 0))) (htb : st.box.get tb = some (.cells cs 25 true (some 0))) (hnr : NR e0 cs t) (hv : Vw st pv p) (hap : Apart (F s) pv) (hapy : Apart (fun i => i = yb) pv)
  (h4 : Fr.at fr 3 = .ptr yb 0) (hgl : fr.gl = gl)
  (hA : ∀ (id' : Nat) (fr' : Fr) (st' : St) (z : S) (K : AE → Fr → St → Prop), Fr.at fr' 61 = .str z → Fr.at fr' 3 = .ptr yb 0 → fr'.ds = [] → fr'.gl = gl →
   (∀ fr2, Fr.at fr2 7 = .str z → Fr.at fr2 3 = .ptr yb 0 → fr2.ds = [] → fr2.gl = gl → K .normal fr2 st') → DoK Tryz.prog (some id') [A] fr' st' K)
  (hB : ∀ (id' : Nat) (fr' : Fr) (st' : St) (v : Bool) (st2 : St) (z : S) (K : AE → Fr → St → Prop), Fr.at fr' 3 = .ptr yb 0 → Fr.at fr' 7 = .str z → fr'.ds = [] → fr'.gl = gl → st'.box.get yb = some (.cells [.yld id] 64 true (some 0)) →
   ihCall (W Tryz.prog) gl (.y id) [.str z] st' = .val (.bool v) st2 → (v = true → ∀ fr2, K .normal fr2 st2) → (v = false → ∀ fr2, K .ret fr2 st2) → DoK Tryz.prog (some id') [B] fr' st' K)
  (hN : ∀ st2 s2, (JaC step (obs s) (Qv t p)).2 = false → obs s2 = (JaC step (obs s) (Qv t p)).1 → I s2 false st2 → Outs (F s) st st2 → (∀ i, F s2 i → F s i ∨ st.ctr + 2 ≤ i) → st2.box.get st.ctr = some (.mark false) → st.ctr + 2 ≤ st2.ctr → DoK Tryz.prog none k { fr with ds := .mark st.ctr :: fr.ds } st2 Q)
  (hR : ∀ st2 s2, (JaC step (obs s) (Qv t p)).2 = true → obs s2 = (JaC step (obs s) (Qv t p)).1 → I s2 true st2 → Outs (F s) st st2 → (∀ i, F s2 i → F s i ∨ st.ctr + 2 ≤ i) → st2.box.get st.ctr = some (.mark false) → st.ctr + 2 ≤ st2.ctr → Q .ret { fr with ds := .mark st.ctr :: fr.ds } st2) :
  DoK Tryz.prog none (.rangeFunc g #[61] A B :: k) fr st Q := by
 have hFc := C.low s false st hI
 have hnf : ∀ i, st.ctr ≤ i → ¬ F s i := fun i hi hf => by have := hFc i hf; omega
 let lp := fun (b : Bool) => Bx.loop (cond b .done .ready) (cond b (some .ret) none) fr.t [61] A B
 let id' := st.ctr + 1
 let F' := fun (s : σ) i => F s i ∨ i = id' ∨ i = yb
 let I' := fun (s : σ) (b : Bool) (st' : St) => I s b st' ∧ st'.box.get id' = some (lp b) ∧ st'.box.get yb = some (.cells [.yld id] 64 true (some 0)) ∧ id' < st'.ctr ∧ yb < st'.ctr ∧ ¬ F s id' ∧ ¬ F s yb
 have C' : Cons Tryz.prog gl id' (List UInt8) Jm9 σ τ obs F' step pre I' := by
  refine ⟨fun s b st' h i hi => ?_, fun s b st1 st2 h hc hb => ?_, fun s st1 y args h hval hpre => ?_⟩
  ·rcases hi with hi | rfl | rfl
   ·exact C.low s b st' h.1 i hi
   ·exact h.2.2.2.1
   ·exact h.2.2.2.2.1
  ·exact ⟨C.stable s b st1 st2 h.1 hc fun i hi => hb i (.inl hi), by rw [hb id' (.inr (.inl rfl))]; exact h.2.1, by rw [hb yb (.inr (.inr rfl))]; exact h.2.2.1, Nat.lt_of_lt_of_le h.2.2.2.1 hc, Nat.lt_of_lt_of_le h.2.2.2.2.1 hc, h.2.2.2.2.2⟩
  ·obtain ⟨h1, h2, h4', h5, h6, hidF, hyF⟩ := h
   obtain ⟨z, rfl, hzl, hzn⟩ := hval
   have hFi : ∀ i, F s i → i < st1.ctr := C.low s false st1 h1
   have hidy : id' ≠ yb := by show st.ctr + 1 ≠ yb; omega
   obtain ⟨v, st4, hc, hv1, s4, hv0, hv2, hv3, hv4⟩ := Jf5 (P := Tryz.prog) (gl := gl) (id := id') (args := [.str z]) (st := st1) (R := fun v st2 => v = (step (obs s) y).2 ∧ ∃ s2, obs s2 = (step (obs s) y).1 ∧ I' s2 (!v) st2 ∧ Outs (F' s) st1 st2 ∧ ∀ i, F' s2 i → F' s i ∨ st1.ctr ≤ i) (pend := none) (t := fr.t) (ps := [61]) (a := A) (b := B) h2 rfl (fun K hK => by
    refine hA id' _ st1 z K (by rw [Jfv]; rfl) (by rw [Jfv, if_neg (by decide)]; exact h4) rfl rfl fun fr2 f8 f4 fd fg => ?_
    refine hK fr2 st1 h2 fun K' hn hr => ?_
    have hst3 : ∀ i, i ≠ id' → (st1.put id' (.loop .busy none fr.t [61] A B)).box.get i = st1.box.get i := fun i hi => by rw [put_get, if_neg hi]
    have hI3 : I s false (st1.put id' (.loop .busy none fr.t [61] A B)) := C.stable s false st1 _ h1 (by rw [Q3]; omega) fun i hi => by
     rw [hst3 i (by rintro rfl; exact hidF hi)]
    obtain ⟨s4, st4, hc4, hs4, hI4, hO4, hS4⟩ := C.round s (st1.put id' (.loop .busy none fr.t [61] A B)) y [.str z] hI3 ⟨z, rfl, hzl, hzn⟩ hpre
    rw [Q3] at hS4
    have hid4 : st4.box.get id' = some (.loop .busy none fr.t [61] A B) := by rw [hO4.box id' (by rw [Q3]; omega) hidF, put_get, if_pos rfl]
    have hyb4 : st4.box.get yb = some (.cells [.yld id] 64 true (some 0)) := by rw [hO4.box yb (by rw [Q3]; omega) hyF, hst3 yb (Ne.symm hidy)]; exact h4'
    have hc2 : st1.ctr ≤ st4.ctr := by have := hO4.ctr; rw [Q3] at this; exact this
    have hid5 : ¬ F s4 id' := fun h => (hS4 _ h).elim hidF (by omega)
    have hy5 : ¬ F s4 yb := fun h => (hS4 _ h).elim hyF (by omega)
    have hOut : ∀ bx, Outs (F' s) st1 (st4.put id' bx) := fun bx => by
     refine Outs.put ⟨by omega, fun i hi hf => ?_⟩ (.inr (.inr (.inl rfl))) _
     rw [hO4.box i (by rw [Q3]; omega) (fun h => hf (.inl h)), hst3 i (fun h => hf (.inr (.inl h)))]
    have hsub : ∀ i, F' s4 i → F' s i ∨ st1.ctr ≤ i := fun i hi => by
     rcases hi with hi | hi
     ·rcases hS4 i hi with h | h
      ·exact .inl (.inl h)
      ·exact .inr (by omega)
     ·exact .inl (.inr hi)
    have hfin : ∀ b : Bool, (step (obs s) y).2 = !b → I' s4 b (st4.put id' (lp b)) := fun b hbv => by
     refine ⟨C.stable _ _ st4 _ (by rw [hbv, Bool.not_not] at hI4; exact hI4) (Nat.le_refl _) (fun i hi => by rw [put_get, if_neg (by rintro rfl; exact hid5 hi)]), by rw [put_get, if_pos rfl], by rw [put_get, if_neg (Ne.symm hidy)]; exact hyb4, by rw [Q3]; omega, by rw [Q3]; omega, hid5, hy5⟩
    refine hB id' fr2 _ (step (obs s) y).2 st4 z K' f4 f8 fd fg (by rw [hst3 yb (Ne.symm hidy)]; exact h4') hc4 (fun hv fr5 => ?_) (fun hv fr5 => ?_)
    ·exact hn fr5 st4 hid4 ⟨hv.symm, s4, hs4, hfin false hv, hOut _, hsub⟩
    ·exact hr fr5 st4 hid4 ⟨hv.symm, s4, hs4, hfin true hv, hOut _, hsub⟩)
   refine ⟨s4, st4, by rw [hc, hv1], hv0, by rw [← hv1]; exact hv2, hv3, hv4⟩
 let st1 : St := (st.new (.mark false)).new (.loop .ready none fr.t [61] A B)
 have hg1 : ∀ i, i < st.ctr → st1.box.get i = st.box.get i := fun i hi => by
  show ((st.new _).new _).box.get i = _
  rw [QC, if_neg (by rw [JbP]; omega), QC, if_neg (by omega)]
 have hc1 : st1.ctr = st.ctr + 2 := rfl
 have hI1 : I' s false st1 := ⟨C.stable s false st st1 hI (by omega) fun i hi => hg1 i (hFc i hi), by show ((st.new _).new _).box.get (st.ctr + 1) = _; rw [QC, if_pos (show st.ctr + 1 = (st.new (.mark false)).ctr from rfl)]; rfl, by rw [hg1 yb hyc]; exact hyb, by show st.ctr + 1 < _; omega, by omega, hnf _ (by show st.ctr ≤ st.ctr + 1; omega), hyf⟩
 have hO1 : Outs (fun _ => False) st st1 := ⟨by omega, fun i hi _ => hg1 i hi⟩
 have hid' : id' = st.ctr + 1 := rfl
 have hpidc : Apart (fun i => i = id') pv := by
  cases hv with
  | nils => trivial
  | sl => trivial
  | ms id off cap cs e fl fz l hb hl hlt hid hcap => show ¬ id = id'; omega
 obtain ⟨v, st2, hc, s2, ho2, hI2, hO2, hS2⟩ := hp σ τ obs step I' F' id' s st1 pb tb pv cs pre hok C' hI1 (by omega) (by omega) (by rintro (h | h | h); exact hpf h; omega; exact hpy h) (by rintro (h | h | h); exact htf h; omega; exact hty h) (by rw [hg1 pb hpc]; exact hpb) (by rw [hg1 tb htc]; exact htb) hnr
  (hv.out hO1 (by cases pv <;> first | trivial | exact not_false)) (by cases pv <;> first | trivial | (rintro (h | h | h); exact hap h; exact hpidc h; exact hapy h))
 have hidF2 := hI2.2.2.2.2.2.1
 have hyF2 := hI2.2.2.2.2.2.2
 have hsub2 : ∀ i, F s2 i → F s i ∨ st.ctr + 2 ≤ i := fun i hi => by
  rcases hS2 i (.inl hi) with (h | h | h) | h
  ·exact .inl h
  ·subst h; exact absurd hi hidF2
  ·subst h; exact absurd hi hyF2
  ·exact .inr (by omega)
 have hmk : st2.box.get st.ctr = some (.mark false) := by
  rw [hO2.box st.ctr (by omega) (by rintro (h | h | h); exact hnf _ (Nat.le_refl _) h; omega; omega)]
  show ((st.new _).new _).box.get st.ctr = _
  rw [QC, if_neg (by rw [JbP]; omega), QC, if_pos rfl]
 have hout : ∀ bx, Outs (F s) st (st2.put id' bx) := fun bx => by
  refine Outs.put ⟨by have := hO2.ctr; omega, fun i hi hf => ?_⟩ (.inl (by omega)) _
  by_cases hy : i = yb
  ·subst hy; rw [hI2.2.2.1, hyb]
  ·rw [hO2.box i (by omega) (by rintro (h | h | h); exact hf h; omega; exact hy h), hg1 i hi]
 have hbox := hI2.2.1
 have hctr : st.ctr + 2 ≤ st2.ctr := by have := hO2.ctr; omega
 have hIs : ∀ b bx, I s2 b st2 → I s2 b (st2.put id' bx) := fun b bx h => C.stable _ _ st2 _ h (Nat.le_refl _) fun i hi => by
  rw [put_get, if_neg (by rintro rfl; exact hidF2 hi)]
 refine DoK.range (id := id') (st1 := st1) (fr' := { fr with ds := .mark st.ctr :: fr.ds }) hg (by kernel_rfl) rfl (by rw [hgl]; exact Q1 hc) ?_
 refine ⟨_, _, _, _, _, _, hbox, ?_, ?_⟩
 ·cases (JaC step (obs s) (Qv t p)).2 <;> simp
 ·have hI3 := hI2.1
  cases hst : (JaC step (obs s) (Qv t p)).2 with
  | false =>
   rw [hst] at hI3
   exact .inl ⟨rfl, hN _ s2 hst ho2 (hIs _ _ hI3) (hout _) hsub2 (by rw [put_get, if_neg (by omega)]; exact hmk) (by rw [Q3]; exact hctr)⟩
  | true =>
   rw [hst] at hI3
   exact .inr ⟨rfl, hR _ s2 hst ho2 (hIs _ _ hI3) (hout _) hsub2 (by rw [put_get, if_neg (by omega)]; exact hmk) (by rw [Q3]; exact hctr)⟩
end Go.Vm
namespace Go.Vm
open Go Go.Proofs Go.Pa
attribute [local simp] OkS Qi OkG Qh Qp OkD JY Qr JI Jm Jq vop Js JB ev evs toV Jl Fr.dsTo Fr.glTo Fr.toNone Ji Jj Jk Qk QL Jd JD Jv V.undef JW JM J7 JX J3 J9 J8 Qa JH J4 J5 JZ JO Qb Jt Ju Jw Jz JE Jr JL JN JK Qq
theorem z64 : Qj Tryz.prog 64 = some 1 := by kernel_rfl
theorem a64 : Jag Tryz.prog 64 = some false := by kernel_rfl
def JcC (kids : List Nt) (names p : List S) (i : Nat) : List (List UInt8) := JaL (kids.drop i) (names.drop i) p
theorem JhX {kids : List Nt} {names p : List S} {i : Nat} (h : i < kids.length) (h' : i < names.length) : JcC kids names p i = Qv kids[i] (p ++ [names[i]]) ++ JcC kids names p (i + 1) := by
 unfold JcC
 rw [List.drop_eq_getElem_cons h, List.drop_eq_getElem_cons h', JaL]
theorem Jod {kids : List Nt} {names p : List S} {i : Nat} (h : kids.length ≤ i) : JcC kids names p i = [] := by
 unfold JcC
 rw [List.drop_eq_nil_of_le h, Jcc]
theorem Jna {σ α : Type} (step : σ → α → σ × Bool) (s : σ) (y : α) : JaC step s [y] = ((step s y).1, !(step s y).2) := by
 simp only [JaC]
 cases (step s y).2 <;> rfl
variable [Memo] [NY]
set_option maxRecDepth 100000 in
theorem JgD (gl : Gl) (st : St) (cs : List V) (pv : V) (ho : cs.all Qn = true) (hp : pv.cells = [pv]) (hpo : Qn pv = true) :
  Says Tryz.prog gl 29 [.agg cs, pv] st (fun v st' => v = .fn 47 [] [.ptr (st.ctr + 1) 0, .ptr st.ctr 0] ∧ st' = (st.new (.cells cs 25 true (some 0))).new (.cells [pv] 22 true (some 0))) := by
 refine JS (NY.no _ rfl rfl rfl _ _) Tryz.func29 rfl (by kernel_rfl) fun R hR K gr gn => ?_
 generalize hfr : Jx gl [.agg cs, pv] = fr
 have hF : Fs gl [(0, .agg cs), (1, pv)] fr := by subst hfr; simp [Fs]
 simp only [Fs] at hF
 clear hfr
 refine Ks_ (Ka_ (gs := [none, none, none]) fun K1 gK => ?_)
 simp (disch := omega) [hF, ho, hp, hpo, Ja]
 refine gK _ _ (Ks_ (Ka_ (gs := [none, none]) fun K1 gK => ?_))
 simp (disch := omega) []
 refine gK _ _ (Kq_ (gr _ _ ?_))
 simp [JC, Tryz.f29, hF]
 refine hR _ _ ?_
 exact ⟨rfl, rfl⟩
end Go.Vm
namespace Go.Vm
open Go Go.Proofs Go.Pa
attribute [local simp] OkS Qi OkG Qh Qp OkD JY Qr JI Jm Jq vop Js JB ev evs toV Jl Fr.dsTo Fr.glTo Fr.toNone Ji Jj Jk Qk QL Jd JD Jv V.undef JW JM J7 JX J3 J9 J8 Qa JH J4 J5 JZ JO Qb Jt Ju Jw Jz JE Jr JL JN JK Qq
variable [Memo] [NY] [NZ] [NO]
set_option maxHeartbeats 8000000 in
set_option maxRecDepth 100000 in
omit [NZ] in
theorem Jj3 (gl : Gl) (kind : Nat) (text : S) (nv kv : V) (names : List S) (kids : List Nt) (css : List (List V)) (hk : kind < 256) (hn0 : Vw e0 nv names) (hkv0 : NRs e0 kv css kids) (hz : vsz nv ≤ 200000000 ∧ vsz kv ≤ 200000000) (htl : text.n ≤ 100000) (hwell : QA (.mk kind text names kids) = true) (p : List S) (hp : p.length + (Jae kids + 1) ≤ 600) (hps : ∀ s ∈ p, s.n ≤ 64) (ih : ∀ (i : Nat) (hi : i < kids.length) (hi' : i < names.length), QA kids[i] = true → (∀ s ∈ p ++ [names[i]], s.n ≤ 64) → Jhn gl kids[i] (p ++ [names[i]])) {σ τ : Type} {obs : σ → τ} {step : τ → List UInt8 → τ × Bool} {I : σ → Bool → St → Prop} {F : σ → Nat → Prop} {id : Nat} {s : σ} (st : St) {pb tb : Nat} {pv : V} {pre : τ → List UInt8 → Prop} (hyok : GoodRun step pre (obs s) (Qv (.mk kind text names kids) p)) (C : Cons Tryz.prog gl id (List UInt8) Jm9 σ τ obs F step pre I) (hI : I s false st) (hpc : pb < st.ctr) (htc : tb < st.ctr) (hpf : ¬ F s pb) (htf : ¬ F s tb) (hpb : st.box.get pb = some (.cells [pv] 22 true (some 0))) (htb : st.box.get tb = some (.cells [.int .u8 (kind : Int), .str text, nv, kv] 25 true (some 0))) (hv : Vw st pv p) (hap : Apart (F s) pv) :
  Says Tryz.prog gl 47 [.yld id, .ptr pb 0, .ptr tb 0] st (fun _ st' => ∃ s', obs s' = (JaC step (obs s) (Qv (.mk kind text names kids) p)).1 ∧ I s' (JaC step (obs s) (Qv (.mk kind text names kids) p)).2 st' ∧ Outs (F s) st st' ∧ ∀ i, F s' i → F s i ∨ st.ctr ≤ i) := by
 refine Jos (NY.no _ rfl rfl rfl _ _) Tryz.func47 rfl (by kernel_rfl) fun R hR K gr gn => ?_
 generalize hfr : Jx gl [.yld id, .ptr pb 0, .ptr tb 0] = fr
 have hF : FsD [] gl [(0, .yld id), (1, .ptr pb 0), (2, .ptr tb 0)] fr := by subst hfr; simp [FsD]
 simp only [FsD] at hF
 clear hfr
 have hFc := C.low s false st hI
 obtain ⟨y0, hy0⟩ : ∃ y, JeC p ++ 32 :: Jie kind text = y := ⟨_, rfl⟩
 obtain ⟨L, hL⟩ : ∃ b, (decide (kind = 1) || decide (kind = 3)) = b := ⟨_, rfl⟩
 have hLT : Qv (.mk kind text names kids) p = y0 :: cond L [] (JcC kids names p 0) := by rw [Qv, hy0, hL]; rfl
 rw [hLT] at hR hyok
 clear hLT
 obtain ⟨q1, hq1⟩ : ∃ q, q = st.new (.cells [.yld id] 64 true (some 0)) := ⟨_, rfl⟩
 have kq1 : Keep st q1 := by rw [hq1]; exact (Keep.refl st).new' _
 have by1 : q1.box.get st.ctr = some (.cells [.yld id] 64 true (some 0)) := by rw [hq1, QC, if_pos rfl]
 have cq1 : q1.ctr = st.ctr + 1 := by rw [hq1]; rfl
 have hnew : ({ ctr := st.ctr + 1, box := st.box.put st.ctr (.cells [.yld id] 64 true (some 0)) } : St) = q1 := by rw [hq1]; rfl
 clear hq1
 have lp1 := Qd (P := Tryz.prog) (T := 22) (off := 0) Jju JhC ((kq1.box pb hpc).trans hpb) rfl
 obtain ⟨v, q2, hcs, ⟨pt, rfl, hpt⟩, hk2⟩ := Says.use (JmV gl q1 pv p (hv.keep kq1) (by omega) (fun s h => by have := hps s h; omega))
 have hptn : pt.n ≤ 39001 := by rw [← S.len, hpt]; exact JeD (by omega) hps
 obtain ⟨v, q3, hcp, ⟨et, rfl, het⟩, hk3⟩ := Says.use (JnH gl q2 pt (by omega))
 rw [hpt] at het
 have k3 : Keep st q3 := kq1.trans (hk2.trans hk3)
 have k13 : Keep q1 q3 := hk2.trans hk3
 have hetn : et.n ≤ 156100 := by rw [← S.len, het]; exact JlQ (by omega) hps
 have ads : ∀ kk (c : S) (r : List UInt8), c.n ≤ 1000000 → r.length ≤ 1000 → Jn Tryz.prog kk .add 9 (.str c) (.str (S.ofList r)) = some (.str (c.app (S.ofList r))) := fun kk c r hc hr => Jai (by rw [Qu]; omega)
 have hcl3 := k13.ctr
 have tk : ∀ {q : St}, Keep q3 q → NB q tb [.int .u8 (kind : Int), .str text, nv, kv] := fun h => ⟨by rw [h.box tb (by have := k3.ctr; omega), k3.box tb htc]; exact htb, Nat.lt_of_lt_of_le htc (Nat.le_trans k3.ctr h.ctr)⟩
 have yk : ∀ {q : St}, Keep q3 q → Qe Tryz.prog q 64 (.ptr st.ctr 0) = some (.yld id) := fun h => Qd (P := Tryz.prog) (off := 0) a64 z64 (by rw [h.box st.ctr (by omega), k13.box st.ctr (by omega)]; exact by1) rfl
 have fin : ∀ (st2 : St) (ds : List Df) (hi : Nat) (s2 : σ) (b : Bool), I s2 b st2 → Outs (F s) st st2 → (∀ i, F s2 i → F s i ∨ st.ctr ≤ i) → MarksOk st.ctr (F s2) st2 ds hi → JaC step (obs s) (y0 :: cond L [] (JcC kids names p 0)) = (obs s2, b) → ∃ st3, Jdw ds st2 = some st3 ∧ ∀ v, R v st3 := fun st2 ds hi s2 b hI2 hO2 hS2 hmk hrun => by
  obtain ⟨st3, m1, m2, m3, m4⟩ := Jit hmk
  refine ⟨st3, m1, fun v => hR v st3 ?_⟩
  rw [hrun]
  exact ⟨s2, rfl, C.stable s2 b st2 st3 hI2 (by omega) m4, ⟨by rw [m2]; exact hO2.ctr, fun i hi hf => by rw [m3 i (.inl hi)]; exact hO2.box i hi hf⟩, hS2⟩
 have hgr1 : pre (obs s) y0 := hyok.1
 have l0 := (tk (.refl q3)).ld.l0
 have yq1 : veq 1000000000 (.yld id) (.yld id) = true := Qz _ (Nat.le_of_ble_eq_true rfl)
 obtain ⟨qt, hqt, kt, _⟩ := Jcb q3 8
 obtain ⟨v, q4, hce, ⟨xt, rfl, hxt⟩, k4⟩ := Says.use (Jl1 gl qt text htl)
 have k34 : Keep q3 q4 := kt.trans k4
 have hxn : xt.n ≤ 200000 := by
  have h1 := congrArg List.length hxt
  have h2 := JbC text.toList
  rw [S.len] at h1
  rw [S.len] at h2
  omega
 have yt := yk kt
 have y4 := yk k34
 have lt1 := (tk kt).ld.l1
 have lt14 := (tk k34).ld.l1
 have leaf : ∀ (z : S), z.toList = y0 → z.n ≤ 2000000 → L = true → ∃ (q5 : St) (bo : Bool), ihCall (W Tryz.prog) gl (.y id) [.str z] q4 = .val (.bool bo) q5 ∧ ∀ v, R v q5 := fun z hz1 hzn1 hLt => by
  obtain ⟨s1, q5, hcy, ho1, hI5, hO5, hS5⟩ := C.round s q4 y0 [.str z] (C.stable s false st q4 hI (k3.trans k34).ctr fun i hi => (k3.trans k34).box i (hFc i hi)) ⟨_, rfl, hz1, hzn1⟩ hgr1
  have hrun1 : JaC step (obs s) (y0 :: cond L [] (JcC kids names p 0)) = (obs s1, !(step (obs s) y0).2) := by rw [hLt, cond_true, Jna, ho1]
  obtain ⟨st3, m1, m2⟩ := fin q5 [] q5.ctr s1 _ hI5 ((Outs.of (k3.trans k34)).trans hO5) (fun i hi => (hS5 i hi).imp_right fun h => by have := (k3.trans k34).ctr; omega) (by show st.ctr ≤ q5.ctr; have := (k3.trans k34).ctr; have := hO5.ctr; omega) hrun1
  have : st3 = q5 := (Option.some.inj m1).symm
  subst this
  exact ⟨st3, _, hcy, m2⟩
 refine Ks_ (Ka_ (gs := [none]) fun K1 gK => ?_)
 simp (disch := omega) [hF, hnew, Qf]
 refine gK _ _ (Ks_ (Ka_ (gs := [none, none, none, none]) fun K1 gK => ?_))
 simp (disch := omega) [hF, lp1, hcs, hcp]
 refine gK _ _ (Ks_ (Ks_ (Ka_ (gs := [none, none]) fun K1 gK => ?_)))
 simp (disch := omega) [hF, gN0, l0]
 refine gK _ _ ?_
 refine Kb_ fun K1 gn1 gx1 go1 => ?_
 have gr1 := fun fr st h => go1 AE.ret fr st trivial (gr fr st h)
 refine Ks_ (Ka_ (gs := [none, none]) fun K1 gK => ?_)
 simp (disch := omega) []
 refine gK _ _ ?_
 by_cases k1 : kind = 1
 ·
  refine Kt_ (by simp (disch := omega) [k1]) ?_
  have a1 := fun kk => ads kk et [32, 102, 32] (by omega) (by simp)
  have a2 : ∀ kk, Jn Tryz.prog kk .add 9 (.str (et.app (S.ofList [32, 102, 32]))) (.str xt) = some (.str ((et.app (S.ofList [32, 102, 32])).app xt)) := fun kk => Jai (by rw [JcT, Qu]; simp; omega)
  obtain ⟨q5, bo, hcy, m2⟩ := leaf ((et.app (S.ofList [32, 102, 32])).app xt) (by rw [← hy0, S.toList_app, S.toList_app, S.toList_ofList, hxt, het, k1]; simp [Jie, JeC]) (by rw [JcT, JcT, Qu]; simp; omega) (by rw [← hL, k1]; rfl)
  refine Ks_ (Kj_ (b := [0, 0, 2, 0, 8, 24, 62, 127]) (rs := [(3, 3), (0, 3), (6, 2)]) fun K1 gK => ?_)
  simp (disch := omega) [hF, gN1, k1, hqt, hce, a1, a2, hcy, yt, y4, lt1, yq1]
  refine gK _ _ ?_
  exact Kq_ (gr1 _ _ ⟨.inl rfl, q5, by simp only [Fr.dsTo, hF]; rfl, [], rfl, m2 _⟩)
 ·
  refine Kf_ (by simp (disch := omega) [k1]) (Ks_ (Ka_ (gs := [none, none]) fun K1 gK => ?_))
  simp (disch := omega) [k1]
  refine gK _ _ ?_
  by_cases k3' : kind = 3
  ·
   refine Kt_ (by simp (disch := omega) [k3']) ?_
   have a1 := fun kk => ads kk et [32, 108, 32] (by omega) (by simp)
   have a2 : ∀ kk, Jn Tryz.prog kk .add 9 (.str (et.app (S.ofList [32, 108, 32]))) (.str xt) = some (.str ((et.app (S.ofList [32, 108, 32])).app xt)) := fun kk => Jai (by rw [JcT, Qu]; simp; omega)
   obtain ⟨q5, bo, hcy, m2⟩ := leaf ((et.app (S.ofList [32, 108, 32])).app xt) (by rw [← hy0, S.toList_app, S.toList_app, S.toList_ofList, hxt, het, k3']; simp [Jie, JeC]) (by rw [JcT, JcT, Qu]; simp; omega) (by rw [← hL, k3']; rfl)
   refine Ks_ (Kj_ (b := [0, 0, 2, 0, 8, 24, 62, 127]) (rs := [(3, 3), (0, 3), (6, 2)]) fun K1 gK => ?_)
   simp (disch := omega) [hF, gN1, k3', hqt, hce, a1, a2, hcy, yt, y4, lt1, yq1]
   refine gK _ _ ?_
   exact Kq_ (gr1 _ _ ⟨.inl rfl, q5, by simp only [Fr.dsTo, hF]; rfl, [], rfl, m2 _⟩)
  ·
   refine Kf_ (by simp (disch := omega) [k3']) ?_
   obtain ⟨rfl, htz, hnk, hno, hwk⟩ := Jbu hwell k1 k3'
   have h64 := JfP hno
   have hkl := JbZ kids
   have hL0 : L = false := by rw [← hL]; rfl
   subst hL0
   rw [cond_false] at fin hR
   have hyok2 : (step (obs s) y0).2 = true → GoodRun step pre (step (obs s) y0).1 (JcC kids names p 0) := fun h => hyok.2 h
   have a3 := fun kk => ads kk et [32, 100] (by omega) (by simp)
   have hz3 : (et.app (S.ofList [32, 100])).toList = y0 := by rw [← hy0, S.toList_app, S.toList_ofList, het]; rfl
   obtain ⟨s1, q5, hcy, ho1, hI5, hO5, hS5⟩ := C.round s q3 y0 [.str (et.app (S.ofList [32, 100]))] (C.stable s false st q3 hI k3.ctr fun i hi => k3.box i (hFc i hi)) ⟨_, rfl, hz3, by rw [JcT, Qu]; simp; omega⟩ hgr1
   have y5 := yk (.refl q3)
   have ck := k3.ctr
   obtain ⟨bo, hbo⟩ : ∃ b, (step (obs s) y0).2 = b := ⟨_, rfl⟩
   rw [hbo] at hcy hI5
   have hsub5 : ∀ i, F s1 i → F s i ∨ st.ctr + 1 ≤ i := fun i hi => (hS5 i hi).imp_right fun h => by omega
   have hst5 : Outs (F s) st q5 := (Outs.of k3).trans hO5
   have c5 := hst5.ctr
   have byF : ¬ F s st.ctr := fun h => by have := hFc _ h; omega
   have by5 : q5.box.get st.ctr = some (.cells [.yld id] 64 true (some 0)) := by rw [hO5.box _ (by omega) byF, k13.box _ (by omega)]; exact by1
   have bt5 : NB q5 tb [.int .u8 ((2 : Nat) : Int), .str text, nv, kv] := ⟨by rw [hst5.box _ htc htf]; exact htb, by omega⟩
   have hFc5 := C.low _ _ q5 hI5
   have cq5 : st.ctr + 1 ≤ q5.ctr := by have := hO5.ctr; omega
   have hln := (hn0.keep (k0 q5)).len Tryz.underlying22
   rw [hnk] at hln
   refine Kk_ (gn1 _ _ (Ks_ (Ks_ (Ka_ (gs := [none, none, none, none, none]) fun K1 gK => ?_))))
   simp (disch := omega) [hF, k3', a3, y5, hcy]
   refine gK _ _ ?_
   cases bo with
   | true =>
    refine Kf_ (by simp (disch := omega) []) ?_
    have m5 := bt5.ld.l2
    refine Kk_ (Ks_ (Ka_ (gs := [none, none, none, none]) fun K1 gK => ?_))
    simp (disch := omega) [hF, gN2, m5, hln]
    refine gK _ _ ?_
    refine Kl_ (kids.length) (fun i fr st' => ∃ (ds : List Df) (s' : σ), FsD ds gl [(1, .ptr pb 0), (2, .ptr tb 0), (3, .ptr st.ctr 0), (39, nv), (40, .int .i64 (kids.length : Int)), (41, .int .i64 (i : Int))] fr ∧ i ≤ kids.length ∧ I s' false st' ∧ (Outs (F s) st st' ∧ (∀ i, F s' i → F s i ∨ st.ctr ≤ i) ∧ ¬ F s' pb ∧ ¬ F s' tb ∧ ¬ F s' st.ctr ∧ Apart (F s') pv) ∧ (st'.box.get st.ctr = some (.cells [.yld id] 64 true (some 0)) ∧ st.ctr + 1 ≤ st'.ctr) ∧ MarksOk st.ctr (F s') st' ds st'.ctr ∧ (JaC step (obs s) (y0 :: JcC kids names p 0) = JaC step (obs s') (JcC kids names p i) ∧ GoodRun step pre (obs s') (JcC kids names p i))) (0) (fun fr st' => ∃ (ds : List Df) (s' : σ), FsD ds gl [] fr ∧ I s' false st' ∧ Outs (F s) st st' ∧ (∀ i, F s' i → F s i ∨ st.ctr ≤ i) ∧ MarksOk st.ctr (F s') st' ds st'.ctr ∧ JaC step (obs s) (y0 :: JcC kids names p 0) = (obs s', false)) ?_ ?_ ?_ ?_
    ·exact ⟨[], s1, by simp [FsD, hF], Nat.zero_le _, hI5, ⟨hst5, fun i hi => (hsub5 i hi).imp_right fun h => by omega, fun h => (hsub5 _ h).elim hpf fun h2 => by omega, fun h => (hsub5 _ h).elim htf fun h2 => by omega, fun h => (hsub5 _ h).elim byF fun h2 => by omega, Apart.sub (st := st) (fun i hi => (hsub5 i hi).imp_right fun h => by omega) hv hap⟩, ⟨by5, cq5⟩, (by show st.ctr ≤ q5.ctr; omega), ⟨by rw [JaC, hbo, ho1], by rw [ho1]; exact hyok2 hbo⟩⟩
    ·rintro i fr st' ⟨ds, s', _, hi, hI', ⟨hO', hS', hp', ht', hyf', hap'⟩, ⟨by', cy'⟩, hmk, ⟨hrun, hgs⟩⟩
     omega
    ·as_aux_lemma =>
     clear hF
     rintro i fr st' ⟨ds, s', hF, hi, hI', ⟨hO', hS', hp', ht', hyf', hap'⟩, ⟨by', cy'⟩, hmk, ⟨hrun, hgs⟩⟩ K2 gk2 gx2 go2
     simp only [FsD] at hF
     have gr2 := fun fr st h => go2 AE.ret fr st trivial (gr fr st h)
     refine Ks_ (Ka_ (gs := [none]) fun K1 gK => ?_)
     simp (disch := omega) [hF]
     refine gK _ _ (Ks_ ?_)
     by_cases hlt : i < kids.length
     ·
      refine Kt_ (by simp (disch := omega) [hlt]) ?_
      have hlt' : i < names.length := by omega
      have hls : i < css.length := by rw [hkv0.l]; exact hlt
      have hns := hn0.ix Tryz.underlying22 z9 (k := .i64) (a := (i : Int)) (by omega) (by omega)
      have hnd := (hn0.keep (k0 st')).ld z9 a9 hlt'
      have hkx := hkv0.s.ix Tryz.underlying23 Jbh (k := .i64) (a := (i : Int)) (by omega) (by omega)
      have hkd : ∀ st, Qe Tryz.prog st 25 (adr 4 kv i) = some (.agg css[i]) := fun st => (hkv0.keep (k0 st)).s.ld Jbh Jdo hls
      have hrk := hkv0.r i hls hlt
      refine Kk_ (Ks_ ?_)
      refine Kb_ fun K3 gn3 gx3 go3 => ?_
      have gr3 := fun fr st h => go3 AE.ret fr st trivial (gr2 fr st h)
      refine Ks_ (Ka_ (gs := [none, none, none, none, none]) fun K1 gK => ?_)
      simp (disch := omega) [hF, hlt, hns, hnd]
      refine gK _ _ ?_
      have ihk := ih i hlt hlt' (hwk _ (List.getElem_mem hlt)) (Jks hps (h64 _ (List.getElem_mem hlt')))
      have hgk := hgs
      rw [JhX hlt hlt'] at hgk
      have hgk := hgk.app
      refine Ks_ ?_
      refine Km_ (fun fr st' => ∃ (pb2 tb2 : Nat) (pv2 : V), FsD ds gl [(1, .ptr pb 0), (2, .ptr tb 0), (3, .ptr st.ctr 0), (39, nv), (40, .int .i64 (kids.length : Int)), (41, .int .i64 (i : Int)), (60, .fn 47 [] [.ptr pb2 0, .ptr tb2 0])] fr ∧ I s' false st' ∧ Outs (F s) st st' ∧ (st'.box.get st.ctr = some (.cells [.yld id] 64 true (some 0)) ∧ st.ctr + 1 ≤ st'.ctr) ∧ MarksOk st.ctr (F s') st' ds st'.ctr ∧ (st'.box.get pb2 = some (.cells [pv2] 22 true (some 0)) ∧ st'.box.get tb2 = some (.cells css[i] 25 true (some 0)) ∧ (pb2 < st'.ctr ∧ tb2 < st'.ctr) ∧ (st.ctr < pb2 ∧ st.ctr < tb2)) ∧ Vw st' pv2 (p ++ [names[i]]) ∧ (Apart (F s') pv2 ∧ Apart (fun i => i = st.ctr) pv2 ∧ ¬ F s' pb2 ∧ ¬ F s' tb2)) ?_ ?_
      ·as_aux_lemma =>
       intro K4 gm4 go4
       obtain ⟨sT, hsT, kT, _⟩ := Jcb st' 15
       have gp : ∀ {u : St}, Keep st' u → Qe Tryz.prog u 22 (.ptr pb 0) = some pv := fun h => Qd (P := Tryz.prog) (off := 0) Jju JhC (by rw [h.box pb (by have := hO'.ctr; omega), hO'.box pb hpc hpf]; exact hpb) rfl
       have gk3 : ∀ {u : St}, Keep st' u → Qe Tryz.prog u 23 (.ptr tb 3) = some kv := fun h => by
        have hh2 : NB st' tb [.int .u8 ((2 : Nat) : Int), .str text, nv, kv] := ⟨by rw [hO'.box tb htc htf]; exact htb, by have := hO'.ctr; omega⟩
        exact (hh2.keep h).ld.l3
       have hv' := hv.out hO' hap
       have lpv := hv'.len Tryz.underlying22
       obtain ⟨y, hy1, hy2⟩ := JnO hv' (by omega)
       obtain ⟨sC, hsC⟩ : ∃ s : St, s = { ctr := st'.ctr + 15, box := st'.box.put (st'.ctr + 12) (.cells [.str names[i]] 9 true (some 0)) } := ⟨_, rfl⟩
       have kC : Keep st' sC := by rw [hsC]; exact ((Keep.refl st').tick 15).put (by show st'.ctr ≤ _; omega) _
       have gC : sC.box.get (st'.ctr + 12) = some (.cells [.str names[i]] 9 true (some 0)) := by rw [hsC]; simp [Tr.get_put]
       have cC : sC.ctr = st'.ctr + 15 := by rw [hsC]
       have mC : Jbv sC (.ms (st'.ctr + 12) 0 1 1 (some 1)) [.str names[i]] := (Mine.mk (lo := 0) (e := 9) (Nat.zero_le _) (by omega) gC rfl).src rfl
       have vC : Vw sC y p := by
        have := hv'.keep kC
        exact Vw.slice3 this hy1
       have eA := hy2 sC _ names[i] vC mC
       rw [cC] at eA
       obtain ⟨sD, hsD⟩ : ∃ s : St, s = sC.new (.cells ((p ++ [names[i]]).map .str) 9 false (some 0)) := ⟨_, rfl⟩
       rw [← hsD] at eA
       have kD : Keep st' sD := by rw [hsD]; exact kC.new' _
       have cD : sD.ctr = st'.ctr + 16 := by rw [hsD, JbP, cC]
       have gD : sD.box.get (st'.ctr + 15) = some (.cells ((p ++ [names[i]]).map .str) 9 false (some 0)) := by rw [hsD, QC, if_pos cC.symm]
       have vD : Vw sD (.ms (st'.ctr + 15) 0 (p.length + 1) 1 none) (p ++ [names[i]]) := by
        have := Mine.ms (lo := 0) (e := 9) (st := sD) (st'.ctr + 15) (p.length + 1) none ((p ++ [names[i]]).map .str) false (Nat.zero_le _) (by omega) gD (by simp) (fun c hc => by cases hc)
        rw [List.take_of_length_le (by simp)] at this
        exact this.vw
       obtain ⟨v, sE, hcE, rfl, hsE⟩ := Says.use (JgD gl sD css[i] (.ms (st'.ctr + 15) 0 (p.length + 1) 1 none) hrk.ones rfl rfl)
       have kDE : Keep sD sE := by rw [hsE]; exact ((Keep.refl sD).new' _).new' _
       have kE : Keep st' sE := kD.trans kDE
       have vqp := JoM hv' (by omega)
       have vqk : veq 1000000000 kv kv = true := Qz _ (by omega)
       have vqt := hrk.veq
       have hsC' := hsC.symm
       have p1 := gp (.refl st')
       have p2 := gp kT
       have p3 := gp kC
       have p4 := gp kD
       have n1 := gk3 (.refl st')
       have n2 := gk3 kT
       have n3 := gk3 kC
       have n4 := gk3 kD
       refine Kj_ (b := [0, 1, 0, 7, 15, 0, 0, 64, 0, 256, 992, 0, 2048, 8160, 16383]) (rs := [(5, 9), (0, 5), (14, 1)]) fun K1 gK => ?_
       simp (disch := omega) [hF, gN3, p1, n1, n4, lpv, hkx, hkd, hy1, bs1, hsC', eA, hcE, vqp, vqk, vqt, Jc, Qn, Tryz.underlying22]
       refine gK _ _ ?_
       have cE : sE.ctr = sD.ctr + 2 := by rw [hsE]; rfl
       have gE0 : sE.box.get sD.ctr = some (.cells css[i] 25 true (some 0)) := by rw [hsE, QC, if_neg (by rw [JbP]; omega), QC, if_pos rfl]
       have gE1 : sE.box.get (sD.ctr + 1) = some (.cells [.ms (st'.ctr + 15) 0 (p.length + 1) 1 none] 22 true (some 0)) := by rw [hsE, QC, if_pos (show sD.ctr + 1 = (sD.new (.cells css[i] 25 true (some 0))).ctr from rfl)]
       have hFn : ∀ i, st'.ctr ≤ i → ¬ F s' i := fun i hi h => by have := C.low s' false st' hI' i h; omega
       have hmkE : MarksOk st.ctr (F s') sE ds sE.ctr := hmk.outs (Outs.of kE) (fun i hi => .inl hi) (Nat.le_refl _) (by have := kE.ctr; omega)
       exact gm4 _ _ ⟨sD.ctr + 1, sD.ctr, .ms (st'.ctr + 15) 0 (p.length + 1) 1 none, by simp [FsD, hF], C.stable s' false st' sE hI' kE.ctr (fun j hj => kE.box j (C.low s' false st' hI' j hj)), hO'.trans (.of kE), ⟨by rw [kE.box _ (by omega)]; exact by', by omega⟩, hmkE, ⟨gE1, gE0, ⟨by omega, by omega⟩, ⟨by omega, by omega⟩⟩, vD.keep kDE, ⟨hFn (st'.ctr + 15) (by omega), (by show ¬ (st'.ctr + 15 = st.ctr); omega), hFn _ (by omega), hFn _ (by omega)⟩⟩
      ·as_aux_lemma =>
       clear hF
       rintro fr st' ⟨pb2, tb2, pv2, hF, hI4, hO4, ⟨by4, cy4⟩, hmk4, ⟨bp4, bt4, ⟨cp4, ct4⟩, ⟨dp4, dt4⟩⟩, hv4, ⟨hap4, hap4y, hp4, ht4⟩⟩
       simp only [FsD] at hF
       refine Kb_ fun K5 gn5 gx5 go5 => ?_
       have gr5 := fun fr st h => go5 AE.ret fr st trivial (gr3 fr st h)
       refine JpP ihk hgk.1 C (s := s') (by simp [hF]) hI4 by4 (by omega) hyf' cp4 ct4 hp4 ht4 (by omega) (by omega) bp4 bt4 hrk hv4 hap4 hap4y (by simp [hF]) (by simp [hF]) ?_ ?_ ?_ ?_
       ·as_aux_lemma =>
        intro id' fr' st' z K h61 h3 hd hg hkk
        have hF : fr'.at 3 = .ptr st.ctr 0 ∧ fr'.at 61 = .str z ∧ fr'.ds = [] ∧ fr'.gl = gl := ⟨h3, h61, hd, hg⟩
        refine Ka_ (gs := [none]) fun K1 gK => ?_
        simp (disch := omega) [hF]
        refine gK _ _ ?_
        exact hkk _ (by simp []) (by simp [hF]) (by simp [hF]) (by simp [hF])
       ·as_aux_lemma =>
        intro id' fr' st' v st2 z K h3 h7 hd hg hyb hcall hkt hkf
        have hF : fr'.at 3 = .ptr st.ctr 0 ∧ fr'.at 7 = .str z ∧ fr'.ds = [] ∧ fr'.gl = gl := ⟨h3, h7, hd, hg⟩
        have lya := Qd (P := Tryz.prog) (off := 0) a64 z64 hyb rfl
        have gq : ∀ fr st, st = st2 ∧ v = false → K .ret fr st := fun fr st h => by rw [h.1]; exact hkf h.2 fr
        refine Kb_ fun K6 gn6 gx6 go6 => ?_
        have gr6 := fun fr st h => go6 AE.ret fr st trivial (gq fr st h)
        refine Ks_ (Ka_ (gs := [none, none, none, none]) fun K1 gK => ?_)
        simp (disch := omega) [hF, lya, hcall]
        refine gK _ _ ?_
        cases v with
        | true =>
         refine Kf_ (by simp (disch := omega) []) (Kk_ (gn6 _ _ ?_))
         exact hkt rfl _
        | false =>
         refine Kt_ (by simp (disch := omega) []) ?_
         exact Kq_ (gr6 _ _ ⟨rfl, rfl⟩)
       ·as_aux_lemma =>
        intro st2 s5 hr2 ho5 hI5 hO5 hS5 hmk5 hc5
        obtain ⟨f1, f2, f3, f39, f40, f41, f60, fds, fgl⟩ := hF
        generalize hfr6 : ({ fr with ds := .mark st'.ctr :: fr.ds } : Fr) = fr6
        have hF : fr6.at 1 = .ptr pb 0 ∧ fr6.at 2 = .ptr tb 0 ∧ fr6.at 3 = .ptr st.ctr 0 ∧ fr6.at 39 = nv ∧ fr6.at 40 = .int .i64 (kids.length : Int) ∧ fr6.at 41 = .int .i64 (i : Int) ∧ fr6.ds = .mark st'.ctr :: ds ∧ fr6.gl = gl := by
         subst hfr6
         exact ⟨f1, f2, f3, f39, f40, f41, by show Df.mark st'.ctr :: fr.ds = _; rw [fds], fgl⟩
        refine gn5 _ _ (gn3 _ _ (Ka_ (gs := [none, none]) fun K1 gK => ?_))
        simp (disch := omega) [hF]
        refine gK _ _ ?_
        have hcc := hO4.ctr
        have hS6 : ∀ m, F s5 m → F s m ∨ st.ctr ≤ m := fun j hj => (hS5 j hj).elim (hS' j) fun h => .inr (by omega)
        have hmf3 : ¬ F s5 st'.ctr := fun h => (hS5 _ h).elim (fun h2 => by have := C.low s' false st' hI4 _ h2; omega) fun h2 => by omega
        have hmk6 : MarksOk st.ctr (F s5) st2 (.mark st'.ctr :: ds) st2.ctr := ⟨by omega, hmf3, hmk5, hmk4.outs hO5 (fun i hi => (hS5 i hi).imp_right fun h => by omega) (Nat.le_refl _) (Nat.le_refl _)⟩
        refine gk2 (i + 1) _ _ (by omega) ⟨.mark st'.ctr :: ds, s5, by simp [FsD, hF], by omega, hI5, ⟨hO4.trans' hO5 hS', hS6, fun h => (hS5 _ h).elim hp' fun h2 => by omega, fun h => (hS5 _ h).elim ht' fun h2 => by omega, fun h => (hS5 _ h).elim hyf' fun h2 => by omega, Apart.sub (st := st) (fun i hi => (hS5 i hi).imp_right fun h => by omega) hv hap'⟩, ⟨by rw [hO5.box _ (by omega) hyf']; exact by4, by omega⟩, hmk6, ⟨by rw [hrun, JhX hlt hlt', Jf4, hr2, ho5], by rw [ho5]; exact hgk.2 hr2⟩⟩
       ·as_aux_lemma =>
        intro st2 s5 hr2 ho5 hI5 hO5 hS5 hmk5 hc5
        refine gr5 _ _ ?_
        have hcc := hO4.ctr
        have hS6 : ∀ m, F s5 m → F s m ∨ st.ctr ≤ m := fun j hj => (hS5 j hj).elim (hS' j) fun h => .inr (by omega)
        have hmf3 : ¬ F s5 st'.ctr := fun h => (hS5 _ h).elim (fun h2 => by have := C.low s' false st' hI4 _ h2; omega) fun h2 => by omega
        have hmk6 : MarksOk st.ctr (F s5) st2 (.mark st'.ctr :: ds) st2.ctr := ⟨by omega, hmf3, hmk5, hmk4.outs hO5 (fun i hi => (hS5 i hi).imp_right fun h => by omega) (Nat.le_refl _) (Nat.le_refl _)⟩
        obtain ⟨st3, m1, m2⟩ := fin st2 (.mark st'.ctr :: ds) st2.ctr s5 true hI5 (hO4.trans' hO5 hS') hS6 hmk6 (by
         rw [hrun, JhX hlt hlt', Jf4, hr2]
         exact Prod.ext ho5.symm hr2)
        refine ⟨.inl rfl, st3, ?_, [], rfl, m2 _⟩
        show Jdw (Df.mark st'.ctr :: fr.ds) st2 = _
        rw [hF.2.2.2.2.2.2.2.1]
        exact m1
     ·
      refine Kf_ (by simp (disch := omega) [hlt]) ?_
      exact Kx_ (gx2 _ _ ⟨ds, s', by simp [FsD, hF, hlt], hI', hO', hS', hmk, by rw [hrun, Jod (by omega)]; rfl⟩)
    ·as_aux_lemma =>
     clear hF
     rintro fr st' ⟨ds, s', hF, hI', hO', hS', hmk, hrun⟩
     simp only [FsD] at hF
     obtain ⟨st3, m1, m2⟩ := fin st' ds st'.ctr s' false hI' hO' hS' hmk hrun
     exact gn fr st' ⟨.inr rfl, st3, by rw [hF.1]; exact m1, [], rfl, m2 _⟩
   | false =>
    refine Kt_ (by simp (disch := omega) []) ?_
    obtain ⟨st3, m1, m2⟩ := fin q5 [] q5.ctr s1 true hI5 hst5 (fun i hi => (hsub5 i hi).imp_right fun h => by omega) (by show st.ctr ≤ q5.ctr; omega) (by rw [JaC, hbo, ho1])
    refine Kq_ (gr _ _ ⟨.inl rfl, st3, ?_, [], rfl, m2 _⟩)
    simp [hF]
    exact m1
omit [NZ] in
theorem Jnb (gl : Gl) : ∀ t : Nt, t.fit → QA t = true → ∀ p : List S, p.length + t.nodes ≤ 600 → (∀ s ∈ p, s.n ≤ 64) → Jhn gl t p := Nt.ind fun kind text names kids ih hf hw p hp hps σ τ obs step I F id s st pb tb pv cs pre hyok C hI hpc htc hpf htf hpb htb hnr hv hap => by
 cases hf with
 | mk _ _ _ _ ht hnl hkl hns hks =>
 cases hnr with
 | mk kind text nv kv names kids css hk hn hs hl hz hr =>
  simp only [Nt.nodes] at hp
  exact Jj3 gl kind text nv kv names kids css hk hn ⟨hs, hl, hr⟩ hz ht hw p hp hps (fun i hi hi' hwk h64 => ih _ (List.getElem_mem hi) (hks _ (List.getElem_mem hi)) hwk _ (by have := Jig (List.getElem_mem hi); simp; omega) h64) st hyok C hI hpc htc hpf htf hpb htb hv hap
end Go.Vm
namespace Go.Vm
open Go Go.Proofs Go.Pa
variable [Memo]
theorem JoG {gl : Gl} {t : Nt} {p : List S} (hp : Jhn gl t p) {σ τ : Type} {obs : σ → τ} {step : τ → List UInt8 → τ × Bool} {pre : τ → List UInt8 → Prop} {J : σ → Bool → St → Prop} {G : σ → Nat → Prop}
  (low : ∀ s b st, J s b st → ∀ i, G s i → i < st.ctr) (stable : ∀ s b st st', J s b st → st.ctr ≤ st'.ctr → (∀ i, G s i → st'.box.get i = st.box.get i) → J s b st')
  {s : σ} (hyok : GoodRun step pre (obs s) (Qv t p)) {st : St} {fr : Fr} {g : Operand} {q dst : Tmp} {A B : Code} {k : List Code} {Q : AE → Fr → St → Prop} {pb tb : Nat} {pv : V} {cs : List V} (hg : ev fr g = some (.fn 47 [] [.ptr pb 0, .ptr tb 0])) (hI : J s false st)
  (hpc : pb < st.ctr) (htc : tb < st.ctr) (hpf : ¬ G s pb) (htf : ¬ G s tb)
  (hpb : st.box.get pb = some (.cells [pv] 22 true (some 0))) (htb : st.box.get tb = some (.cells cs 25 true (some 0))) (hnr : NR e0 cs t) (hv : Vw st pv p) (hap : Apart (G s) pv)
  (Φ : Fr → Prop) (hΦ : ∀ v, Φ ⟨Jc6 [q] [v] fr.t, [], gl⟩) (hgl : fr.gl = gl)
  (hA : ∀ (id' : Nat) (fr' : Fr) (st' : St) (z : S) (K : AE → Fr → St → Prop), Fr.at fr' q = .str z → Φ fr' → (∀ fr2, Fr.at fr2 dst = .str z → Φ fr2 → K .normal fr2 st') → DoK Tryz.prog (some id') [A] fr' st' K)
  (hB : ∀ (id' : Nat) (fr' : Fr) (s : σ) (st' : St) (y : List UInt8) (z : S) (K : AE → Fr → St → Prop), Φ fr' → Fr.at fr' dst = .str z → J s false st' → z.toList = y → z.n ≤ 2000000 → pre (obs s) y →
   (∀ fr2 st2 s2, (step (obs s) y).2 = true → obs s2 = (step (obs s) y).1 → J s2 false st2 → Outs (G s) st' st2 → (∀ i, G s2 i → G s i ∨ st'.ctr ≤ i) → K .normal fr2 st2) →
   (∀ fr2 st2 s2, (step (obs s) y).2 = false → obs s2 = (step (obs s) y).1 → J s2 true st2 → Outs (G s) st' st2 → (∀ i, G s2 i → G s i ∨ st'.ctr ≤ i) → K .ret fr2 st2) → DoK Tryz.prog (some id') [B] fr' st' K)
  (hN : ∀ st2 s2, (JaC step (obs s) (Qv t p)).2 = false → obs s2 = (JaC step (obs s) (Qv t p)).1 → J s2 false st2 → Outs (G s) st st2 → (∀ i, G s2 i → G s i ∨ st.ctr + 2 ≤ i) → st2.box.get st.ctr = some (.mark false) → st.ctr + 2 ≤ st2.ctr → DoK Tryz.prog none k { fr with ds := .mark st.ctr :: fr.ds } st2 Q)
  (hR : ∀ st2 s2, (JaC step (obs s) (Qv t p)).2 = true → obs s2 = (JaC step (obs s) (Qv t p)).1 → J s2 true st2 → Outs (G s) st st2 → (∀ i, G s2 i → G s i ∨ st.ctr + 2 ≤ i) → st2.box.get st.ctr = some (.mark false) → st.ctr + 2 ≤ st2.ctr → Q .ret { fr with ds := .mark st.ctr :: fr.ds } st2) :
  DoK Tryz.prog none (.rangeFunc g #[q] A B :: k) fr st Q := by
 have hFc := low s false st hI
 have hnf : ∀ i, st.ctr ≤ i → ¬ G s i := fun i hi hf => by have := hFc i hf; omega
 let lp := fun (b : Bool) => Bx.loop (cond b .done .ready) (cond b (some .ret) none) fr.t [q] A B
 let id' := st.ctr + 1
 let F' := fun (s : σ) i => G s i ∨ i = id'
 let I' := fun (s : σ) (b : Bool) (st' : St) => J s b st' ∧ st'.box.get id' = some (lp b) ∧ id' < st'.ctr ∧ ¬ G s id'
 have C' : Cons Tryz.prog gl id' (List UInt8) Jm9 σ τ obs F' step pre I' := by
  refine ⟨fun s b st' h i hi => ?_, fun s b st1 st2 h hc hb => ?_, fun s st1 y args h hval hpre => ?_⟩
  ·rcases hi with hi | rfl
   ·exact low s b st' h.1 i hi
   ·exact h.2.2.1
  ·exact ⟨stable s b st1 st2 h.1 hc fun i hi => hb i (.inl hi), by rw [hb id' (.inr rfl)]; exact h.2.1, Nat.lt_of_lt_of_le h.2.2.1 hc, h.2.2.2⟩
  ·obtain ⟨h1, h2, h5, hidF⟩ := h
   obtain ⟨z, rfl, hzl, hzn⟩ := hval
   have hFi : ∀ i, G s i → i < st1.ctr := low s false st1 h1
   obtain ⟨v, st4, hc, hv1, s4, hv0, hv2, hv3, hv4⟩ := Jf5 (P := Tryz.prog) (gl := gl) (id := id') (args := [.str z]) (st := st1) (R := fun v st2 => v = (step (obs s) y).2 ∧ ∃ s2, obs s2 = (step (obs s) y).1 ∧ I' s2 (!v) st2 ∧ Outs (F' s) st1 st2 ∧ ∀ i, F' s2 i → F' s i ∨ st1.ctr ≤ i) (pend := none) (t := fr.t) (ps := [q]) (a := A) (b := B) h2 rfl (fun K hK => by
    refine hA id' _ st1 z K (by rw [Jfv, if_pos rfl]) (hΦ _) fun fr2 f7 fΦ => ?_
    refine hK fr2 st1 h2 fun K' hn hr => ?_
    have hst3 : ∀ i, i ≠ id' → (st1.put id' (.loop .busy none fr.t [q] A B)).box.get i = st1.box.get i := fun i hi => by rw [put_get, if_neg hi]
    have hI3 : J s false (st1.put id' (.loop .busy none fr.t [q] A B)) := stable s false st1 _ h1 (by rw [Q3]; omega) fun i hi => by
     rw [hst3 i (by rintro rfl; exact hidF hi)]
    have hgen : ∀ (b : Bool) (st4 : St) (s4 : σ), J s4 b st4 → Outs (G s) (st1.put id' (.loop .busy none fr.t [q] A B)) st4 → (∀ i, G s4 i → G s i ∨ (st1.put id' (.loop .busy none fr.t [q] A B)).ctr ≤ i) →
      st4.box.get id' = some (.loop .busy none fr.t [q] A B) ∧ I' s4 b (st4.put id' (lp b)) ∧ Outs (F' s) st1 (st4.put id' (lp b)) ∧ ∀ i, F' s4 i → F' s i ∨ st1.ctr ≤ i := fun b st4 s4 hI4 hO4 hS4 => by
     rw [Q3] at hS4
     have hid4 : st4.box.get id' = some (.loop .busy none fr.t [q] A B) := by rw [hO4.box id' (by rw [Q3]; omega) hidF, put_get, if_pos rfl]
     have hc2 : st1.ctr ≤ st4.ctr := by have := hO4.ctr; rw [Q3] at this; exact this
     have hid5 : ¬ G s4 id' := fun h => (hS4 _ h).elim hidF (by omega)
     refine ⟨hid4, ⟨stable _ _ st4 _ hI4 (Nat.le_refl _) (fun i hi => by rw [put_get, if_neg (by rintro rfl; exact hid5 hi)]), by rw [put_get, if_pos rfl], by rw [Q3]; omega, hid5⟩, ?_, ?_⟩
     ·refine Outs.put ⟨by omega, fun i hi hf => ?_⟩ (.inr (.inr rfl)) _
      rw [hO4.box i (by rw [Q3]; omega) (fun h => hf (.inl h)), hst3 i (fun h => hf (.inr h))]
     ·intro i hi
      rcases hi with hi | hi
      ·rcases hS4 i hi with h | h
       ·exact .inl (.inl h)
       ·exact .inr (by omega)
      ·exact .inl (.inr hi)
    refine hB id' fr2 s _ y z K' fΦ f7 hI3 hzl hzn hpre (fun fr5 st4 s4 hs4 ho4 hI4 hO4 hS4 => ?_) (fun fr5 st4 s4 hs4 ho4 hI4 hO4 hS4 => ?_)
    ·obtain ⟨a1, a2, a3, a4⟩ := hgen false st4 s4 hI4 hO4 hS4
     exact hn fr5 st4 a1 ⟨hs4.symm, s4, ho4, a2, a3, a4⟩
    ·obtain ⟨a1, a2, a3, a4⟩ := hgen true st4 s4 hI4 hO4 hS4
     exact hr fr5 st4 a1 ⟨hs4.symm, s4, ho4, a2, a3, a4⟩)
   refine ⟨s4, st4, by rw [hc, hv1], hv0, by rw [← hv1]; exact hv2, hv3, hv4⟩
 let st1 : St := (st.new (.mark false)).new (.loop .ready none fr.t [q] A B)
 have hg1 : ∀ i, i < st.ctr → st1.box.get i = st.box.get i := fun i hi => by
  show ((st.new _).new _).box.get i = _
  rw [QC, if_neg (by rw [JbP]; omega), QC, if_neg (by omega)]
 have hc1 : st1.ctr = st.ctr + 2 := rfl
 have hI1 : I' s false st1 := ⟨stable s false st st1 hI (by omega) fun i hi => hg1 i (hFc i hi), by show ((st.new _).new _).box.get (st.ctr + 1) = _; rw [QC, if_pos (show st.ctr + 1 = (st.new (.mark false)).ctr from rfl)]; rfl, by show st.ctr + 1 < _; omega, hnf _ (by show st.ctr ≤ st.ctr + 1; omega)⟩
 have hO1 : Outs (fun _ => False) st st1 := ⟨by omega, fun i hi _ => hg1 i hi⟩
 have hid' : id' = st.ctr + 1 := rfl
 have hpidc : Apart (fun i => i = id') pv := by
  cases hv with
  | nils => trivial
  | sl => trivial
  | ms id off cap cs e fl fz l hb hl hlt hid hcap => show ¬ id = id'; omega
 obtain ⟨v, st2, hc, s2, ho2, hI2, hO2, hS2⟩ := hp σ τ obs step I' F' id' s st1 pb tb pv cs pre hyok C' hI1 (by omega) (by omega) (by rintro (h | h); exact hpf h; omega) (by rintro (h | h); exact htf h; omega) (by rw [hg1 pb hpc]; exact hpb) (by rw [hg1 tb htc]; exact htb) hnr
  (hv.out hO1 (by cases pv <;> first | trivial | exact not_false)) (by cases pv <;> first | trivial | (rintro (h | h); exact hap h; exact hpidc h))
 have hidF2 := hI2.2.2.2
 have hsub2 : ∀ i, G s2 i → G s i ∨ st.ctr + 2 ≤ i := fun i hi => by
  rcases hS2 i (.inl hi) with (h | h) | h
  ·exact .inl h
  ·subst h; exact absurd hi hidF2
  ·exact .inr (by omega)
 have hmk : st2.box.get st.ctr = some (.mark false) := by
  rw [hO2.box st.ctr (by omega) (by rintro (h | h); exact hnf _ (Nat.le_refl _) h; omega)]
  show ((st.new _).new _).box.get st.ctr = _
  rw [QC, if_neg (by rw [JbP]; omega), QC, if_pos rfl]
 have hout : ∀ bx, Outs (G s) st (st2.put id' bx) := fun bx => by
  refine Outs.put ⟨by have := hO2.ctr; omega, fun i hi hf => ?_⟩ (.inl (by omega)) _
  rw [hO2.box i (by omega) (by rintro (h | h); exact hf h; omega), hg1 i hi]
 have hbox := hI2.2.1
 have hctr : st.ctr + 2 ≤ st2.ctr := by have := hO2.ctr; omega
 have hIs : ∀ b bx, J s2 b st2 → J s2 b (st2.put id' bx) := fun b bx h => stable _ _ st2 _ h (Nat.le_refl _) fun i hi => by
  rw [put_get, if_neg (by rintro rfl; exact hidF2 hi)]
 refine DoK.range (id := id') (st1 := st1) (fr' := { fr with ds := .mark st.ctr :: fr.ds }) hg (by kernel_rfl) rfl (by rw [hgl]; exact Q1 hc) ?_
 refine ⟨_, _, _, _, _, _, hbox, ?_, ?_⟩
 ·cases (JaC step (obs s) (Qv t p)).2 <;> simp
 ·have hI3 := hI2.1
  cases hst : (JaC step (obs s) (Qv t p)).2 with
  | false =>
   rw [hst] at hI3
   exact .inl ⟨rfl, hN _ s2 hst ho2 (hIs _ _ hI3) (hout _) hsub2 (by rw [put_get, if_neg (by omega)]; exact hmk) (by rw [Q3]; exact hctr)⟩
  | true =>
   rw [hst] at hI3
   exact .inr ⟨rfl, hR _ s2 hst ho2 (hIs _ _ hI3) (hout _) hsub2 (by rw [put_get, if_neg (by omega)]; exact hmk) (by rw [Q3]; exact hctr)⟩
end Go.Vm
namespace Go.Vm
open Go Go.Proofs Go.Pa
attribute [local simp] OkP QH OkS Qi OkG Qh Qp OkD JY Qr JI Jm Jq vop Js JB ev evs toV Jl Fr.dsTo Fr.glTo Fr.toNone Ji Jj Jk Qk QL Jd JD Jv V.undef JW JM J7 JX J3 J9 J8 Qa JH J4 J5 JZ JO Qb Jt Ju Jw Jz JE Jr JL JN JK Qq
structure OutC where
 out : V
 ts : List S
def OutC.G (ob : Nat) (s : OutC) (i : Nat) : Prop := i = ob ∨ vid s.out i
structure OutC.J (lo ob : Nat) (s : OutC) (b : Bool) (st : St) : Prop where
 go : b = false
 lto : ob < st.ctr
 xo : st.box.get ob = some (.cells [s.out] 22 true (some 0))
 mine : Mine lo 9 st s.out (s.ts.map .str)
 ao : ¬ vid s.out ob
 lol : lo ≤ ob
theorem OutC.low {lo ob : Nat} {s : OutC} {b : Bool} {st : St} (h : OutC.J lo ob s b st) : ∀ i, s.G ob i → i < st.ctr := fun i hi => by
 rcases hi with rfl | hi
 ·exact h.lto
 ·exact (h.mine.vid_lt hi).2
theorem OutC.stable {lo ob : Nat} {s : OutC} {b : Bool} {st st' : St} (h : OutC.J lo ob s b st) (hc : st.ctr ≤ st'.ctr) (hb : ∀ i, s.G ob i → st'.box.get i = st.box.get i) : OutC.J lo ob s b st' :=
 ⟨h.go, Nat.lt_of_lt_of_le h.lto hc, by rw [hb _ (.inl rfl)]; exact h.xo, h.mine.stab hc fun i hi => hb i (.inr hi), h.ao, h.lol⟩
theorem OutC.push {lo ob : Nat} {s : OutC} {st : St} (hJ : OutC.J lo ob s false st) (z : S) (hlen : s.ts.length < 900) :
  ∃ (u : St) (y : V) (u7 u8 : St), Qe Tryz.prog st 22 (.ptr ob 0) = some s.out ∧ ({ ctr := st.ctr + 1, box := st.box.put st.ctr (.cells [.str z] 9 true (some 0)) } : St) = u ∧ QE Tryz.prog u 22 s.out (.ms st.ctr 0 1 1 (some 1)) = some (y, u7) ∧
   Q0 Tryz.prog u7 22 (.ptr ob 0) y = some u8 ∧ OutC.J lo ob ⟨y, s.ts ++ [z]⟩ false u8 ∧ Outs (s.G ob) st u8 ∧ ∀ i, OutC.G ob ⟨y, s.ts ++ [z]⟩ i → s.G ob i ∨ st.ctr ≤ i := by
 have l0 := Qd (P := Tryz.prog) (off := 0) Jju JhC hJ.xo rfl
 obtain ⟨u, hu⟩ : ∃ q, q = st.new (.cells [.str z] 9 true (some 0)) := ⟨_, rfl⟩
 have ku : Keep st u := by rw [hu]; exact (Keep.refl st).new' _
 have cu : u.ctr = st.ctr + 1 := by rw [hu]; rfl
 have gu : u.box.get st.ctr = some (.cells [.str z] 9 true (some 0)) := by rw [hu, QC, if_pos rfl]
 have hfu : ({ ctr := st.ctr + 1, box := st.box.put st.ctr (.cells [.str z] 9 true (some 0)) } : St) = u := by rw [hu]; rfl
 clear hu
 have hlto := hJ.lto
 have hlol := hJ.lol
 obtain ⟨y, u7, e7, low7, m7, v7, o7⟩ := JnK (hJ.mine.keep ku) ((JmR (lo := 0) (by omega) (by omega) gu).src rfl) (by omega) (by simp; omega)
 simp only [List.length_cons, List.length_nil] at e7
 have c7 := low7.ctr
 have x7 : u7.box.get ob = some (.cells [s.out] 22 true (some 0)) := by rw [o7 _ (by omega) hJ.ao, ku.box _ hJ.lto]; exact hJ.xo
 have w7 := Jjg JhC (v := y) m7.sim x7
 have hvz : ∀ i, i < st.ctr → ¬ vid s.out i → ¬ vid y i := fun i hi h1 h2 => (v7 i h2).elim h1 fun h3 => by omega
 have hu8 : ∀ i, i ≠ ob → (u7.put ob (.cells [y] 22 true (some 0))).box.get i = u7.box.get i := fun i hi => by rw [put_get, if_neg hi]
 refine ⟨u, y, u7, _, l0, hfu, e7, w7, ⟨rfl, by rw [Q3]; omega, by rw [put_get, if_pos rfl], ?_, hvz _ hlto hJ.ao, hlol⟩, ⟨by rw [Q3]; omega, fun i hi hG => ?_⟩, fun i hi => ?_⟩
 ·have := m7.stab (st' := u7.put ob (.cells [y] 22 true (some 0))) (Nat.le_refl _) fun i hi => hu8 i (by rintro rfl; exact hvz _ hlto hJ.ao hi)
  simpa using this
 ·rw [hu8 i (fun h => hG (.inl h)), o7 i (by omega) (fun h => hG (.inr h)), ku.box i hi]
 ·rcases hi with h | h
  ·exact .inl (.inl h)
  ·rcases v7 i h with q | q
   ·exact .inl (.inr q)
   ·exact .inr (by omega)
def JhA (s : List (List UInt8)) (y : List UInt8) : List (List UInt8) × Bool := (s ++ [y], true)
theorem JfO : ∀ (L s : List (List UInt8)), JaC JhA s L = (s ++ L, false)
 | [], s => by simp [JaC]
 | y :: r, s => by
  have h : (JhA s y).2 = true := rfl
  rw [JaC, h, JfO r]
  simp [JhA]
theorem JgY : ∀ {L s : List (List UInt8)}, s.length + L.length ≤ 900 → GoodRun JhA (fun s _ => s.length < 900) s L
 | [], _, _ => trivial
 | y :: r, s, hl => ⟨by simp at hl; omega, fun _ => JgY (by simp at hl; simp [JhA]; omega)⟩
variable [Memo] [NY] [NZ] [NO]
set_option maxHeartbeats 4000000 in
set_option maxRecDepth 100000 in
omit [NZ] [NO] in
theorem JhB (gl : Gl) (st : St) (t : Nt) (cs : List V) (hnr : NR e0 cs t) (hP : Jhn gl t []) (hnd : t.nodes ≤ 600) (pb tb : Nat) (hpc : pb < st.ctr) (htc : tb < st.ctr) (hpb : st.box.get pb = some (.cells [.nils] 22 true (some 0))) (htb : st.box.get tb = some (.cells cs 25 true (some 0))) :
  Says Tryz.prog gl 46 [.nils, .fn 47 [] [.ptr pb 0, .ptr tb 0]] st (fun v st' => (∃ ts : List S, ts.map S.toList = Qv t [] ∧ Mine st.ctr 9 st' v (ts.map .str)) ∧ Keep st st') := by
 refine Jos (NY.no _ rfl rfl rfl _ _) Tryz.func46 rfl (by kernel_rfl) fun R hR K gr gn => ?_
 generalize hfr : Jx gl [.nils, .fn 47 [] [.ptr pb 0, .ptr tb 0]] = fr
 have hF : FsD [] gl [(0, .nils), (1, .fn 47 [] [.ptr pb 0, .ptr tb 0])] fr := by subst hfr; simp [FsD]
 simp only [FsD] at hF
 clear hfr
 obtain ⟨q, hq⟩ : ∃ q, q = st.new (.cells [.nils] 22 true (some 0)) := ⟨_, rfl⟩
 have kq : Keep st q := by rw [hq]; exact (Keep.refl st).new' _
 have bq : q.box.get st.ctr = some (.cells [.nils] 22 true (some 0)) := by rw [hq, QC, if_pos rfl]
 have cq : q.ctr = st.ctr + 1 := by rw [hq]; rfl
 have hnew : ({ ctr := st.ctr + 1, box := st.box.put st.ctr (.cells [.nils] 22 true (some 0)) } : St) = q := by rw [hq]; rfl
 clear hq
 have hlen := JcH t []
 have hJ : OutC.J st.ctr st.ctr ⟨.nils, []⟩ false q := ⟨rfl, by omega, bq, .nils, fun h => h, Nat.le_refl _⟩
 have hG : ∀ i, OutC.G st.ctr ⟨.nils, []⟩ i → i = st.ctr := fun i h => h.elim id (fun h => h.elim)
 have hns : (V.nils).cells = [.nils] := rfl
 refine Ks_ (Ka_ (gs := [none, none]) fun K1 gK => ?_)
 simp (disch := omega) [hF, hnew, hns]
 refine gK _ _ (Ks_ (Ks_ (Ka_ (gs := [none]) fun K1 gK => ?_)))
 simp (disch := omega) [hF]
 refine gK _ _ ?_
 refine Kb_ fun K1 gn1 gx1 go1 => ?_
 refine Kn_ (fun fr => FsD [] gl [(2, .ptr st.ctr 0), (6, .fn 47 [] [.ptr pb 0, .ptr tb 0])] fr) (by simp [FsD, hF]) ?_
 clear hF
 rintro fr hF
 simp only [FsD] at hF
 have hlow := fun (s : OutC) (b : Bool) (st' : St) (h : OutC.J st.ctr st.ctr s b st') => OutC.low h
 have hstab := fun (s : OutC) (b : Bool) (st' st2 : St) (h : OutC.J st.ctr st.ctr s b st') => OutC.stable (st' := st2) h
 refine JoG hP (pre := fun s _ => s.length < 900) (obs := fun s => s.ts.map S.toList) (step := JhA) (G := OutC.G st.ctr) hlow hstab (s := ⟨.nils, []⟩) (JgY (by rw [List.length_map]; simp; omega)) (dst := 5) (pb := pb) (tb := tb) (by simp [hF]) hJ (by omega) (by omega) (fun h => by have := hG _ h; omega) (fun h => by have := hG _ h; omega) (by rw [kq.box _ hpc]; exact hpb) (by rw [kq.box _ htc]; exact htb) hnr .nils trivial
  (fun fr' => fr'.at 2 = .ptr st.ctr 0 ∧ fr'.ds = [] ∧ fr'.gl = gl) (fun v => ⟨by rw [Jfv, if_neg (by decide)]; exact hF.1, rfl, rfl⟩) (by simp [hF]) ?_ ?_ ?_ ?_
 ·as_aux_lemma =>
  intro id' fr' st' z K h7 hΦ hkk
  obtain ⟨h2, hd', hg⟩ := hΦ
  have hF : fr'.at 7 = .str z ∧ fr'.at 2 = .ptr st.ctr 0 ∧ fr'.ds = [] ∧ fr'.gl = gl := ⟨h7, h2, hd', hg⟩
  refine Ka_ (gs := [none]) fun K1 gK => ?_
  simp (disch := omega) [hF]
  refine gK _ _ ?_
  exact hkk _ (by simp []) ⟨by simp [hF], by simp [hF], by simp [hF]⟩
 ·as_aux_lemma =>
  intro id' fr' s5 st5 y z K hΦ h5 hJ5 hzl hzn hpre hkt hkf
  obtain ⟨h2, hd', hg⟩ := hΦ
  have hF : fr'.at 5 = .str z ∧ fr'.at 2 = .ptr st.ctr 0 ∧ fr'.ds = [] ∧ fr'.gl = gl := ⟨h5, h2, hd', hg⟩
  simp only [List.length_map] at hpre
  obtain ⟨u, y7, u7, u8, l0, hfu, e7, w7, hJ8, hO8, hS8⟩ := OutC.push hJ5 z hpre
  refine Kb_ fun K2 gn2 gx2 go2 => ?_
  refine Ka_ (gs := [none, none, none, none, none]) fun K1 gK => ?_
  simp (disch := omega) [hF, l0, bs1, hfu, e7, w7, Jc, Qn, Tryz.underlying22]
  refine gK _ _ (gn2 _ _ ?_)
  exact hkt _ _ ⟨y7, s5.ts ++ [z]⟩ rfl (by simp [JhA, hzl]) hJ8 hO8 hS8
 ·as_aux_lemma =>
  intro st2 s2' hr2 ho2 hJ2 hO2 hG2 hmk2 hc2
  obtain ⟨m, hm⟩ : ∃ m, q.ctr = m := ⟨_, rfl⟩
  rw [hm] at hmk2
  obtain ⟨f2, f6, fds, fgl⟩ := hF
  generalize hfr6 : ({ fr with ds := .mark q.ctr :: fr.ds } : Fr) = fr6
  have hF : fr6.at 2 = .ptr st.ctr 0 ∧ fr6.ds = [.mark m] ∧ fr6.gl = gl := by
   subst hfr6
   exact ⟨f2, by show Df.mark q.ctr :: fr.ds = _; rw [fds, hm], fgl⟩
  clear hfr6
  have lo9 := Qd (P := Tryz.prog) (T := 22) (off := 0) Jju JhC hJ2.xo rfl
  have hm2 : ¬ s2'.G st.ctr m := fun h => (hG2 _ h).elim (fun h2 => by have := hG _ h2; omega) fun h2 => by omega
  have hc9 := hO2.ctr
  refine gn1 _ _ (Ks_ (Ka_ (gs := [none, none]) fun K1 gK => ?_))
  simp (disch := omega) [hF, lo9]
  refine gK _ _ (Kq_ (gr _ _ ?_))
  simp [JkC, Tryz.f46, hF]
  refine ⟨st2.put m (.mark true), by simp only [Jdw, hmk2], hR _ _ ⟨⟨s2'.ts, ?_, ?_⟩, ?_⟩⟩
  ·have e : s2'.ts.map S.toList = (JaC JhA [] (Qv t [])).1 := ho2
   rw [e, JfO]; rfl
  ·refine hJ2.mine.stab (Nat.le_refl _) fun i hi => ?_
   rw [put_get, if_neg]
   rintro rfl
   exact hm2 (.inr hi)
  ·refine ⟨by rw [Q3]; omega, fun i hi => ?_⟩
   rw [put_get, if_neg (by omega), hO2.box i (by omega) (fun hg => by have := hG _ hg; omega)]
   exact kq.box i hi
 ·as_aux_lemma =>
  intro st2 s2' hr2 ho2 hJ2 hO2 hG2 hmk2 hc2
  exact absurd (show (JaC JhA [] (Qv t [])).2 = true from hr2) (by rw [JfO]; simp)
set_option maxRecDepth 100000 in
omit [NZ] [NO] in
theorem Jjs (gl : Gl) (st : St) (t : Nt) (cs : List V) (hnr : NR e0 cs t) (hP : Jhn gl t []) (hnd : t.nodes ≤ 600) (pb tb : Nat) (hpc : pb < st.ctr) (htc : tb < st.ctr) (hpb : st.box.get pb = some (.cells [.nils] 22 true (some 0))) (htb : st.box.get tb = some (.cells cs 25 true (some 0))) :
  Says Tryz.prog gl 28 [.fn 47 [] [.ptr pb 0, .ptr tb 0]] st (fun v st' => (∃ ts : List S, ts.map S.toList = Qv t [] ∧ Mine st.ctr 9 st' v (ts.map .str)) ∧ Keep st st') := by
 refine JS (NY.no _ rfl rfl rfl _ _) Tryz.func28 rfl (by kernel_rfl) fun R hR K gr gn => ?_
 generalize hfr : Jx gl [.fn 47 [] [.ptr pb 0, .ptr tb 0]] = fr
 have hF : Fs gl [(0, .fn 47 [] [.ptr pb 0, .ptr tb 0])] fr := by subst hfr; simp [Fs]
 simp only [Fs] at hF
 clear hfr
 obtain ⟨v, s1, hc, hq, hk⟩ := Says.use (JhB gl st t cs hnr hP hnd pb tb hpc htc hpb htb)
 refine Ks_ (Ka_ (gs := [none]) fun K1 gK => ?_)
 simp (disch := omega) []
 refine gK _ _ (Ks_ (Ka_ (gs := [none, none, none]) fun K1 gK => ?_))
 simp (disch := omega) [hF, hc]
 refine gK _ _ (Kq_ (gr _ _ ?_))
 simp [JC, Tryz.f28, hF]
 refine hR _ _ ?_
 exact ⟨hq, hk⟩
set_option maxRecDepth 100000 in
theorem Jnz (gl : Gl) (hg : gl.get 1 = some powV) {aL : List V} (hh : Hits gl aL) (st : St) (cs : List V) (t : Nt) (hnr : NR e0 cs t) (hf : t.fit) (hnd : t.nodes ≤ 600) :
  Says Tryz.prog gl 10 [.agg cs] st (fun v st' => Jkt st t v st' ∧ Keep st st') := by
 refine JS (NY.no _ rfl rfl rfl _ _) Tryz.func10 rfl (by kernel_rfl) fun R hR K gr gn => ?_
 generalize hfr : Jx gl [.agg cs] = fr
 have hF : Fs gl [(0, .agg cs)] fr := by subst hfr; simp [Fs]
 simp only [Fs] at hF
 clear hfr
 have ho := hnr.ones
 have kq := JJ st cs 25
 have hb := Qc st cs 25
 have hT := NB.new (st := st) (cs := cs)
 generalize Q4 st cs 25 = q at kq hb hT
 have hr := hnr.keep (k0 q)
 have l0 := QZ hT.b hnr.len
 obtain ⟨v, s1, hc, rfl, hk1⟩ := Says.use (JkI gl hg hh q cs t hr hf)
 have l1 := QZ (hT.keep hk1).b hnr.len
 obtain ⟨WN, hWN⟩ : ∃ b, QA t = b := ⟨_, rfl⟩
 simp only [Jkt] at hR
 rw [hWN] at hc hR
 refine Ks_ (Ka_ (gs := [none, none, none]) fun K1 gK => ?_)
 simp (disch := omega) [hF, Ja, ho, hb]
 refine gK _ _ (Ks_ (Ks_ (Ka_ (gs := [none, none, none]) fun K1 gK => ?_)))
 simp (disch := omega) [hF, l0, hc]
 refine gK _ _ ?_
 cases WN with
 | true =>
  refine Kf_ (by simp (disch := omega) []) ?_
  obtain ⟨v, s2, hc2, rfl, hs2⟩ := Says.use (JgD gl s1 cs .nils ho rfl rfl)
  have k2 : Keep s1 s2 := by rw [hs2]; exact ((Keep.refl s1).new' _).new' _
  have c2 : s2.ctr = s1.ctr + 2 := by rw [hs2]; rfl
  have g0 : s2.box.get s1.ctr = some (.cells cs 25 true (some 0)) := by rw [hs2, QC, if_neg (by rw [JbP]; omega), QC, if_pos rfl]
  have g1 : s2.box.get (s1.ctr + 1) = some (.cells [.nils] 22 true (some 0)) := by rw [hs2, QC, if_pos (show s1.ctr + 1 = (s1.new (.cells cs 25 true (some 0))).ctr from rfl)]
  obtain ⟨v, s3, hc3, ⟨ts, hts, hm⟩, hk3⟩ := Says.use (Jjs gl s2 t cs hnr (Jnb gl t hf hWN [] (by simp; omega) (fun s h => by cases h)) hnd (s1.ctr + 1) s1.ctr (by omega) (by omega) g1 g0)
  have hk := kq.trans (hk1.trans k2)
  refine Kk_ (Ks_ (Ka_ (gs := [none, none, none, none, none]) fun K1 gK => ?_))
  simp (disch := omega) [hF, l1, hc2, hc3]
  refine gK _ _ (Kq_ (gr _ _ ?_))
  simp [JC, Tryz.f10, hF]
  refine hR _ _ ?_
  exact ⟨⟨_, ts, rfl, hts, hm.low hk.ctr⟩, hk.trans hk3⟩
 | false =>
  refine Kt_ (by simp (disch := omega) []) (Ks_ (Ka_ (gs := [none, none]) fun K1 gK => ?_))
  simp (disch := omega) []
  refine gK _ _ (Kq_ (gr _ _ ?_))
  simp [JC, Tryz.f10, hF]
  refine hR _ _ ?_
  exact ⟨⟨_, [], rfl, rfl, .nils⟩, kq.trans hk1⟩
end Go.Vm
