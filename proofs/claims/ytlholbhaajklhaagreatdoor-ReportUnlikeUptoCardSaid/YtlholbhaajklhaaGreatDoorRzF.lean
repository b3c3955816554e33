/- A term's lines, by the program: what is yielded; a range within a range. -/
import Derived.Test.YtlholbhaajklhaaGreatDoorRzE
import Derived.Test.YtlholbhaajklhaaGreatDoorRz5
namespace Go.Vm
open Go Go.Proofs Go.Pa
def Jm3 (_ : Nat → Prop) (_ : St) (x : List UInt8) (args : List V) : Prop := ∃ z : S, args = [.str z] ∧ z.toList = x ∧ z.n ≤ 2000000
variable [Memo]
def Jk0 (gl : Gl) (x : V) (l : List Fw) (t : Tw) (p : List S) : Prop :=
 ∀ (σ τ : Type) (obs : σ → τ) (step : τ → List UInt8 → τ × Bool) (I : σ → Bool → St → Prop) (F : σ → Nat → Prop) (id : Nat) (s : σ) (st : St) (pb tb xb : Nat) (pv : V) (pre : τ → List UInt8 → Prop), GoodRun step pre (obs s) (J6 l t p) → Cons Tryz.prog gl id (List UInt8) Jm3 σ τ obs F step pre I → I s false st →
  pb < st.ctr → tb < st.ctr → xb < st.ctr → ¬ F s pb → ¬ F s tb → ¬ F s xb → st.box.get pb = some (.cells [pv] 23 true (some 0)) → st.box.get tb = some (.cells t.cells 26 true (some 0)) → st.box.get xb = some (.cells [x] 22 true (some 0)) → Vw st pv p → Apart (F s) pv →
  Says Tryz.prog gl 47 [.yld id, .ptr pb 0, .ptr tb 0, .ptr xb 0] st fun _ st' => ∃ s', obs s' = (Qm step (obs s) (J6 l t p)).1 ∧ I s' (Qm step (obs s) (J6 l t p)).2 st' ∧ Outs (F s) st st' ∧ ∀ i, F s' i → F s i ∨ st.ctr ≤ i
theorem JpA {gl : Gl} {x : V} {l : List Fw} {t : Tw} {p : List S} (hp : Jk0 gl x l t p) {σ τ : Type} {obs : σ → τ} {step : τ → List UInt8 → τ × Bool} {I : σ → Bool → St → Prop} {F : σ → Nat → Prop} {id : Nat} {s : σ} {pre : τ → List UInt8 → Prop} (hok : GoodRun step pre (obs s) (J6 l t p)) (C : Cons Tryz.prog gl id (List UInt8) Jm3 σ τ obs F step pre I)
  {st : St} {fr : Fr} {g : Operand} {A B : Code} {k : List Code} {Q : AE → Fr → St → Prop} {pb tb xb yb : Nat} {pv : V} (hg : ev fr g = some (.fn 47 [] [.ptr pb 0, .ptr tb 0, .ptr xb 0])) (hI : I s false st)
  (hyb : st.box.get yb = some (.cells [.yld id] 81 true (some 0))) (hyc : yb < st.ctr) (hyf : ¬ F s yb) (hpc : pb < st.ctr) (htc : tb < st.ctr) (hxc : xb < st.ctr) (hpf : ¬ F s pb) (htf : ¬ F s tb) (hxf : ¬ F s xb) (hpy : pb ≠ yb) (hty : tb ≠ yb) (hxy : xb ≠ yb)
  (hpb : st.box.get pb = some (.cells [pv] 23 true (some 0))) (htb : st.box.get tb = some (.cells t.cells 26 true (some 0))) (hxb : st.box.get xb = some (.cells [x] 22 true (some 0))) (hv : Vw st pv p) (hap : Apart (F s) pv) (hapy : Apart (fun i => i = yb) pv)
  (h4 : Fr.at fr 4 = .ptr yb 0) (hgl : fr.gl = gl)
  (hA : ∀ (id' : Nat) (fr' : Fr) (st' : St) (z : S) (K : AE → Fr → St → Prop), Fr.at fr' 73 = .str z → Fr.at fr' 4 = .ptr yb 0 → fr'.ds = [] → fr'.gl = gl →
   (∀ fr2, Fr.at fr2 8 = .str z → Fr.at fr2 4 = .ptr yb 0 → fr2.ds = [] → fr2.gl = gl → K .normal fr2 st') → DoK Tryz.prog (some id') [A] fr' st' K)
  (hB : ∀ (id' : Nat) (fr' : Fr) (st' : St) (v : Bool) (st2 : St) (z : S) (K : AE → Fr → St → Prop), Fr.at fr' 4 = .ptr yb 0 → Fr.at fr' 8 = .str z → fr'.ds = [] → fr'.gl = gl → st'.box.get yb = some (.cells [.yld id] 81 true (some 0)) →
   ihCall (W Tryz.prog) gl (.y id) [.str z] st' = .val (.bool v) st2 → (v = true → ∀ fr2, K .normal fr2 st2) → (v = false → ∀ fr2, K .ret fr2 st2) → DoK Tryz.prog (some id') [B] fr' st' K)
  (hN : ∀ st2 s2, (Qm step (obs s) (J6 l t p)).2 = false → obs s2 = (Qm step (obs s) (J6 l t p)).1 → I s2 false st2 → Outs (F s) st st2 → (∀ i, F s2 i → F s i ∨ st.ctr + 2 ≤ i) → st2.box.get st.ctr = some (.mark false) → st.ctr + 2 ≤ st2.ctr → DoK Tryz.prog none k { fr with ds := .mark st.ctr :: fr.ds } st2 Q)
  (hR : ∀ st2 s2, (Qm step (obs s) (J6 l t p)).2 = true → obs s2 = (Qm step (obs s) (J6 l t p)).1 → I s2 true st2 → Outs (F s) st st2 → (∀ i, F s2 i → F s i ∨ st.ctr + 2 ≤ i) → st2.box.get st.ctr = some (.mark false) → st.ctr + 2 ≤ st2.ctr → Q .ret { fr with ds := .mark st.ctr :: fr.ds } st2) :
  DoK Tryz.prog none (.rangeFunc g #[73] A B :: k) fr st Q := by
 have hFc := C.low s false st hI
 have hnf : ∀ i, st.ctr ≤ i → ¬ F s i := fun i hi hf => by have := hFc i hf; omega
 let lp := fun (b : Bool) => Bx.loop (cond b .done .ready) (cond b (some .ret) none) fr.t [73] A B
 let id' := st.ctr + 1
 let F' := fun (s : σ) i => F s i ∨ i = id' ∨ i = yb
 let I' := fun (s : σ) (b : Bool) (st' : St) => I s b st' ∧ st'.box.get id' = some (lp b) ∧ st'.box.get yb = some (.cells [.yld id] 81 true (some 0)) ∧ id' < st'.ctr ∧ yb < st'.ctr ∧ ¬ F s id' ∧ ¬ F s yb
 have C' : Cons Tryz.prog gl id' (List UInt8) Jm3 σ τ obs F' step pre I' := by
  refine ⟨fun s b st' h i hi => ?_, fun s b st1 st2 h hc hb => ?_, fun s st1 y args h hval hpre => ?_⟩
  ·rcases hi with hi | rfl | rfl
   ·exact C.low s b st' h.1 i hi
   ·exact h.2.2.2.1
   ·exact h.2.2.2.2.1
  ·exact ⟨C.stable s b st1 st2 h.1 hc fun i hi => hb i (.inl hi), by rw [hb id' (.inr (.inl rfl))]; exact h.2.1, by rw [hb yb (.inr (.inr rfl))]; exact h.2.2.1, Nat.lt_of_lt_of_le h.2.2.2.1 hc, Nat.lt_of_lt_of_le h.2.2.2.2.1 hc, h.2.2.2.2.2⟩
  ·obtain ⟨h1, h2, h4', h5, h6, hidF, hyF⟩ := h
   obtain ⟨z, rfl, hzl, hzn⟩ := hval
   have hFi : ∀ i, F s i → i < st1.ctr := C.low s false st1 h1
   have hidy : id' ≠ yb := by show st.ctr + 1 ≠ yb; omega
   obtain ⟨v, st4, hc, hv1, s4, hv0, hv2, hv3, hv4⟩ := JcC (P := Tryz.prog) (gl := gl) (id := id') (args := [.str z]) (st := st1) (R := fun v st2 => v = (step (obs s) y).2 ∧ ∃ s2, obs s2 = (step (obs s) y).1 ∧ I' s2 (!v) st2 ∧ Outs (F' s) st1 st2 ∧ ∀ i, F' s2 i → F' s i ∨ st1.ctr ≤ i) (pend := none) (t := fr.t) (ps := [73]) (a := A) (b := B) h2 rfl (fun K hK => by
    refine hA id' _ st1 z K (by rw [Jag]; rfl) (by rw [Jag, if_neg (by decide)]; exact h4) rfl rfl fun fr2 f8 f4 fd fg => ?_
    refine hK fr2 st1 h2 fun K' hn hr => ?_
    have hst3 : ∀ i, i ≠ id' → (st1.put id' (.loop .busy none fr.t [73] A B)).box.get i = st1.box.get i := fun i hi => by rw [Jm, if_neg hi]
    have hI3 : I s false (st1.put id' (.loop .busy none fr.t [73] A B)) := C.stable s false st1 _ h1 (by rw [JB]; omega) fun i hi => by
     rw [hst3 i (by rintro rfl; exact hidF hi)]
    obtain ⟨s4, st4, hc4, hs4, hI4, hO4, hS4⟩ := C.round s (st1.put id' (.loop .busy none fr.t [73] A B)) y [.str z] hI3 ⟨z, rfl, hzl, hzn⟩ hpre
    rw [JB] at hS4
    have hid4 : st4.box.get id' = some (.loop .busy none fr.t [73] A B) := by rw [hO4.box id' (by rw [JB]; omega) hidF, Jm, if_pos rfl]
    have hyb4 : st4.box.get yb = some (.cells [.yld id] 81 true (some 0)) := by rw [hO4.box yb (by rw [JB]; omega) hyF, hst3 yb (Ne.symm hidy)]; exact h4'
    have hc2 : st1.ctr ≤ st4.ctr := by have := hO4.ctr; rw [JB] at this; exact this
    have hid5 : ¬ F s4 id' := fun h => (hS4 _ h).elim hidF (by omega)
    have hy5 : ¬ F s4 yb := fun h => (hS4 _ h).elim hyF (by omega)
    have hOut : ∀ bx, Outs (F' s) st1 (st4.put id' bx) := fun bx => by
     refine Outs.put ⟨by omega, fun i hi hf => ?_⟩ (.inr (.inr (.inl rfl))) _
     rw [hO4.box i (by rw [JB]; omega) (fun h => hf (.inl h)), hst3 i (fun h => hf (.inr (.inl h)))]
    have hsub : ∀ i, F' s4 i → F' s i ∨ st1.ctr ≤ i := fun i hi => by
     rcases hi with hi | hi
     ·rcases hS4 i hi with h | h
      ·exact .inl (.inl h)
      ·exact .inr (by omega)
     ·exact .inl (.inr hi)
    have hfin : ∀ b : Bool, (step (obs s) y).2 = !b → I' s4 b (st4.put id' (lp b)) := fun b hbv => by
     refine ⟨C.stable _ _ st4 _ (by rw [hbv, Bool.not_not] at hI4; exact hI4) (Nat.le_refl _) (fun i hi => by rw [Jm, if_neg (by rintro rfl; exact hid5 hi)]), by rw [Jm, if_pos rfl], by rw [Jm, if_neg (Ne.symm hidy)]; exact hyb4, by rw [JB]; omega, by rw [JB]; omega, hid5, hy5⟩
    refine hB id' fr2 _ (step (obs s) y).2 st4 z K' f4 f8 fd fg (by rw [hst3 yb (Ne.symm hidy)]; exact h4') hc4 (fun hv fr5 => ?_) (fun hv fr5 => ?_)
    ·exact hn fr5 st4 hid4 ⟨hv.symm, s4, hs4, hfin false hv, hOut _, hsub⟩
    ·exact hr fr5 st4 hid4 ⟨hv.symm, s4, hs4, hfin true hv, hOut _, hsub⟩)
   refine ⟨s4, st4, by rw [hc, hv1], hv0, by rw [← hv1]; exact hv2, hv3, hv4⟩
 let st1 : St := (st.new (.mark false)).new (.loop .ready none fr.t [73] A B)
 have hg1 : ∀ i, i < st.ctr → st1.box.get i = st.box.get i := fun i hi => by
  show ((st.new _).new _).box.get i = _
  rw [Js, if_neg (by rw [JY]; omega), Js, if_neg (by omega)]
 have hc1 : st1.ctr = st.ctr + 2 := rfl
 have hI1 : I' s false st1 := ⟨C.stable s false st st1 hI (by omega) fun i hi => hg1 i (hFc i hi), by show ((st.new _).new _).box.get (st.ctr + 1) = _; rw [Js, if_pos (show st.ctr + 1 = (st.new (.mark false)).ctr from rfl)]; rfl, by rw [hg1 yb hyc]; exact hyb, by show st.ctr + 1 < _; omega, by omega, hnf _ (by show st.ctr ≤ st.ctr + 1; omega), hyf⟩
 have hO1 : Outs (fun _ => False) st st1 := ⟨by omega, fun i hi _ => hg1 i hi⟩
 have hid' : id' = st.ctr + 1 := rfl
 have hpidc : Apart (fun i => i = id') pv := by
  cases hv with
  | nils => trivial
  | sl => trivial
  | ms id off cap cs e fl fz l hb hl hlt hid hcap => show ¬ id = id'; omega
 obtain ⟨v, st2, hc, s2, ho2, hI2, hO2, hS2⟩ := hp σ τ obs step I' F' id' s st1 pb tb xb pv pre hok C' hI1 (by omega) (by omega) (by omega) (by rintro (h | h | h); exact hpf h; omega; exact hpy h) (by rintro (h | h | h); exact htf h; omega; exact hty h) (by rintro (h | h | h); exact hxf h; omega; exact hxy h) (by rw [hg1 pb hpc]; exact hpb) (by rw [hg1 tb htc]; exact htb) (by rw [hg1 xb hxc]; exact hxb)
  (hv.out hO1 (by cases pv <;> first | trivial | exact not_false)) (by cases pv <;> first | trivial | (rintro (h | h | h); exact hap h; exact hpidc h; exact hapy h))
 have hidF2 := hI2.2.2.2.2.2.1
 have hyF2 := hI2.2.2.2.2.2.2
 have hsub2 : ∀ i, F s2 i → F s i ∨ st.ctr + 2 ≤ i := fun i hi => by
  rcases hS2 i (.inl hi) with (h | h | h) | h
  ·exact .inl h
  ·subst h; exact absurd hi hidF2
  ·subst h; exact absurd hi hyF2
  ·exact .inr (by omega)
 have hmk : st2.box.get st.ctr = some (.mark false) := by
  rw [hO2.box st.ctr (by omega) (by rintro (h | h | h); exact hnf _ (Nat.le_refl _) h; omega; omega)]
  show ((st.new _).new _).box.get st.ctr = _
  rw [Js, if_neg (by rw [JY]; omega), Js, if_pos rfl]
 have hout : ∀ bx, Outs (F s) st (st2.put id' bx) := fun bx => by
  refine Outs.put ⟨by have := hO2.ctr; omega, fun i hi hf => ?_⟩ (.inl (by omega)) _
  by_cases hy : i = yb
  ·subst hy; rw [hI2.2.2.1, hyb]
  ·rw [hO2.box i (by omega) (by rintro (h | h | h); exact hf h; omega; exact hy h), hg1 i hi]
 have hbox := hI2.2.1
 have hctr : st.ctr + 2 ≤ st2.ctr := by have := hO2.ctr; omega
 have hIs : ∀ b bx, I s2 b st2 → I s2 b (st2.put id' bx) := fun b bx h => C.stable _ _ st2 _ h (Nat.le_refl _) fun i hi => by
  rw [Jm, if_neg (by rintro rfl; exact hidF2 hi)]
 refine DoK.range (id := id') (st1 := st1) (fr' := { fr with ds := .mark st.ctr :: fr.ds }) hg (by kernel_rfl) rfl (by rw [hgl]; exact J1 hc) ?_
 refine ⟨_, _, _, _, _, _, hbox, ?_, ?_⟩
 ·cases (Qm step (obs s) (J6 l t p)).2 <;> simp
 ·have hI3 := hI2.1
  cases hst : (Qm step (obs s) (J6 l t p)).2 with
  | false =>
   rw [hst] at hI3
   exact .inl ⟨rfl, hN _ s2 hst ho2 (hIs _ _ hI3) (hout _) hsub2 (by rw [Jm, if_neg (by omega)]; exact hmk) (by rw [JB]; exact hctr)⟩
  | true =>
   rw [hst] at hI3
   exact .inr ⟨rfl, hR _ s2 hst ho2 (hIs _ _ hI3) (hout _) hsub2 (by rw [Jm, if_neg (by omega)]; exact hmk) (by rw [JB]; exact hctr)⟩
end Go.Vm
namespace Go.Vm
open Go Go.Proofs Go.Pa
attribute [local simp] OkS QL OkG Qf Qs OkD J3 Qe JL Je Jk vop Jq Jx ev evs toV Jj Fr.dsTo Fr.glTo Fr.toNone Jg Jh Ji J7 QI Jc JF Jt V.undef JX JQ Qg J8 J9 Qa Qh Qi JT Qb Qj Qc JR Qk JE Jw Jy JD JG Ju JS JW JK Ql
theorem z81 : JU Tryz.prog 81 = some 1 := by kernel_rfl
theorem a81 : QM Tryz.prog 81 = some false := by kernel_rfl
theorem Jeh : QZ Tryz.prog 26 = some (.agg [.int .i64 0, .int .u8 0, .str ⟨0, 0⟩, .int .i64 0, .nils, .nils]) := by kernel_rfl
theorem kix {k : Nat} (h : k = 0 ∨ k = 1 ∨ k = 2 ∨ k = 3) : Jd Tryz.prog 83 (.cp kindsV) (.int .u8 (k : Int)) = some (.cp (kindsV.drop k)) := by
 rcases h with rfl | rfl | rfl | rfl <;> kernel_rfl
def Jcf : Nat → List UInt8
 | 0 => [97, 98, 115, 101, 110, 116]
 | 1 => [102, 105, 108, 101, 32]
 | 2 => [100, 105, 114]
 | _ => [108, 105, 110, 107, 32]
theorem kld {k : Nat} (h : k = 0 ∨ k = 1 ∨ k = 2 ∨ k = 3) (st : St) : Jz Tryz.prog st 9 (.cp (kindsV.drop k)) = some (.str (S.ofList (Jcf k))) := by
 rcases h with rfl | rfl | rfl | rfl <;> (simp only [Jz, QQ, a9, z9]; rfl)
theorem Joa (k : Nat) : (Jcf k).length ≤ 10 := by
 unfold Jcf; split <;> simp
theorem Jm4 {l : List Fw} {ref : Int} {kind : Nat} {text : S} {base : Int} {nv kv : V} {names : List S} {kids : List Tw} (h : Jae l (.mk ref kind text base nv names kv kids) = true) (hr : ref < 0) :
  (kind = 0 ∨ kind = 1 ∨ kind = 2 ∨ kind = 3) ∧ (kind = 0 ∨ kind = 2 → text.n = 0) ∧ (kind ≠ 2 → base = -1) := by
 simp only [Jae] at h
 have hr1 : ref = -1 := by
  by_cases h1 : ref = -1
  ·exact h1
  ·simp only [h1, decide_false, cond_false, Bool.and_eq_true, decide_eq_true_eq] at h
   omega
 simp only [hr1, decide_true, cond_true] at h
 by_cases hk : kind = 2
 ·simp only [hk, decide_true, cond_true, Bool.and_eq_true, decide_eq_true_eq] at h
  exact ⟨by omega, fun _ => h.1, fun hh => absurd hk hh⟩
 ·simp only [hk, decide_false, cond_false] at h
  by_cases h0 : kind = 0
  ·simp only [h0, decide_true, cond_true, Bool.and_eq_true, decide_eq_true_eq] at h
   exact ⟨by omega, fun _ => h.1, fun _ => h.2.1⟩
  ·simp only [h0, decide_false, cond_false, Bool.and_eq_true, decide_eq_true_eq, JfK, Bool.or_eq_true] at h
   have h4 := h.2.2.2.1
   exact ⟨by omega, fun hh => by omega, fun _ => h.1⟩
theorem Jm5 {l : List Fw} {ref : Int} {kind : Nat} {text : S} {base : Int} (hr : ref < 0) (hk : kind = 0 ∨ kind = 1 ∨ kind = 2 ∨ kind = 3) (ht : kind = 0 ∨ kind = 2 → text.n = 0) (hb : kind ≠ 2 → base = -1) :
  Jcf kind ++ esc text.toList ++ JjO l base = Jct l ref kind text base := by
 have hn : text.n = 0 → text.toList = [] := fun h => List.eq_nil_of_length_eq_zero (by rw [S.len]; exact h)
 unfold Jct
 rw [decide_eq_false (by omega), cond_false]
 rcases hk with rfl | rfl | rfl | rfl
 ·rw [hb (by omega), hn (ht (.inl rfl))]; rfl
 ·rw [hb (by omega)]; simp [Jcf, JjO]
 ·rw [hn (ht (.inr rfl))]; simp [Jcf, esc]
 ·rw [hb (by omega)]; simp [Jcf, JjO]
def JbT (l : List Fw) (kids : List Tw) (names p : List S) (i : Nat) : List (List UInt8) := Q7 l (kids.drop i) (names.drop i) p
theorem JhX {l : List Fw} {kids : List Tw} {names p : List S} {i : Nat} (h : i < kids.length) (h' : i < names.length) : JbT l kids names p i = J6 l kids[i] (p ++ [names[i]]) ++ JbT l kids names p (i + 1) := by
 unfold JbT
 rw [List.drop_eq_getElem_cons h, List.drop_eq_getElem_cons h', Q7]
theorem Job {l : List Fw} {kids : List Tw} {names p : List S} {i : Nat} (h : kids.length ≤ i) : JbT l kids names p i = [] := by
 unfold JbT
 rw [List.drop_eq_nil_of_le h, Jbf]
theorem Jm6 {σ α : Type} (step : σ → α → σ × Bool) (s : σ) (y : α) : Qm step s [y] = ((step s y).1, !(step s y).2) := by
 simp only [Qm]
 cases (step s y).2 <;> rfl
theorem JpB {st : St} {t : Tw} (h : t.ok) : ∃ s2 : St, Jaq Tryz.prog { ctr := st.ctr + 1, box := st.box.put st.ctr (.cells [.int .i64 0, .int .u8 0, .str ⟨0, 0⟩, .int .i64 0, .nils, .nils] 26 true (some 0)) } 26 (.ptr st.ctr 0) (.agg t.cells) = some s2 ∧ s2.ctr = st.ctr + 1 ∧ Keep st s2 ∧ s2.box.get st.ctr = some (.cells t.cells 26 true (some 0)) :=
 ⟨_, Jdq JhJ (by rw [Tr.get_put, if_pos rfl]) rfl t.len6 (Tw.ones h), rfl, ((Keep.refl st).new _).put (Nat.le_refl _) _, by show ((st.box.put _ _).put _ _).get _ = _; rw [Tr.get_put, if_pos rfl]⟩
variable [Memo] [NY]
set_option maxRecDepth 100000 in
theorem Jgh (gl : Gl) (st : St) (x pv : V) (t : Tw) (hx : x.cells = [x]) (hxo : JZ x = true) (ht : t.ok) (hp : pv.cells = [pv]) (hpo : JZ pv = true) :
  Says Tryz.prog gl 27 [x, .agg t.cells, pv] st (fun v st' => v = .fn 47 [] [.ptr (st.ctr + 2) 0, .ptr (st.ctr + 1) 0, .ptr st.ctr 0] ∧ st' = ((st.new (.cells [x] 22 true (some 0))).new (.cells t.cells 26 true (some 0))).new (.cells [pv] 23 true (some 0))) := by
 refine QD (NY.no _ rfl rfl rfl _ _) Tryz.func27 rfl (by kernel_rfl) fun R hR K gr gn => ?_
 generalize hfr : JH gl [x, .agg t.cells, pv] = fr
 have hF : Fs gl [(0, x), (1, .agg t.cells), (2, pv)] fr := by subst hfr; simp [Fs]
 simp only [Fs] at hF
 clear hfr
 have ho := Tw.ones ht
 refine Ks_ (Ka_ (gs := [none, none, none, none]) fun K1 gK => ?_)
 simp (disch := omega) [hF, hx, hxo, ho, hp, hpo, Ja]
 refine gK _ _ (Ks_ (Ka_ (gs := [none, none]) fun K1 gK => ?_))
 simp (disch := omega) []
 refine gK _ _ (Kq_ (gr _ _ ?_))
 simp [JM, Tryz.f27, hF]
 refine hR _ _ ?_
 exact ⟨rfl, rfl⟩
end Go.Vm
namespace Go.Vm
open Go Go.Proofs Go.Pa
attribute [local simp] OkS QL OkG Qf Qs OkD J3 Qe JL Je Jk vop Jq Jx ev evs toV Jj Fr.dsTo Fr.glTo Fr.toNone Jg Jh Ji J7 QI Jc JF Jt V.undef JX JQ Qg J8 J9 Qa Qh Qi JT Qb Qj Qc JR Qk JE Jw Jy JD JG Ju JS JW JK Ql
theorem Jcg (st : St) (n : Nat) : Keep st { ctr := st.ctr + n, box := st.box } := ⟨Nat.le_add_right _ _, fun _ _ => rfl⟩
variable [Memo] [NY] [NZ] [NO]
set_option maxHeartbeats 8000000 in
set_option maxRecDepth 100000 in
omit [NZ] in
theorem Jj9 (gl : Gl) {aL : List V} (hh : Hits gl aL) (hw1 : gl.get 1 = some kindsV) (x : V) (l : List Fw) (hx : Row Fw.cells x l) (hok : ∀ f ∈ l, f.ok) (hs : ∀ f ∈ l, f.small) (hl : l.length ≤ 60) (hm : MayF l) (ref : Int) (kind : Nat) (text : S) (base : Int) (nv : V) (names : List S) (kv : V) (kids : List Tw) (_hk : kind < 256) (hn : Row sC nv names) (hkv : Row Tw.cells kv kids) (hks : ∀ t ∈ kids, t.ok) (htx : text.n ≤ 5000) (hnl : names.length ≤ 200) (_hnt : ∀ s ∈ names, s.n ≤ 300) (_hkl : kids.length ≤ 200) (hvt : ∀ t ∈ kids, veq 1000000000 (.agg t.cells) (.agg t.cells) = true) (hmay : Jae l (.mk ref kind text base nv names kv kids) = true) (p : List S) (hp : p.length + (QC kids + 1) ≤ 250) (hps : ∀ s ∈ p, s.n ≤ 300) (ih : ∀ (i : Nat) (hi : i < kids.length) (hi' : i < names.length), Jk0 gl x l kids[i] (p ++ [names[i]])) {σ τ : Type} {obs : σ → τ} {step : τ → List UInt8 → τ × Bool} {I : σ → Bool → St → Prop} {F : σ → Nat → Prop} {id : Nat} {s : σ} (st : St) {pb tb xb : Nat} {pv : V} {pre : τ → List UInt8 → Prop} (hyok : GoodRun step pre (obs s) (J6 l (.mk ref kind text base nv names kv kids) p)) (C : Cons Tryz.prog gl id (List UInt8) Jm3 σ τ obs F step pre I) (hI : I s false st) (hpc : pb < st.ctr) (htc : tb < st.ctr) (hxc : xb < st.ctr) (hpf : ¬ F s pb) (htf : ¬ F s tb) (hxf : ¬ F s xb) (hpb : st.box.get pb = some (.cells [pv] 23 true (some 0))) (htb : st.box.get tb = some (.cells (Tw.mk ref kind text base nv names kv kids).cells 26 true (some 0))) (hxb : st.box.get xb = some (.cells [x] 22 true (some 0))) (hv : Vw st pv p) (hap : Apart (F s) pv) :
  Says Tryz.prog gl 47 [.yld id, .ptr pb 0, .ptr tb 0, .ptr xb 0] st (fun _ st' => ∃ s', obs s' = (Qm step (obs s) (J6 l (.mk ref kind text base nv names kv kids) p)).1 ∧ I s' (Qm step (obs s) (J6 l (.mk ref kind text base nv names kv kids) p)).2 st' ∧ Outs (F s) st st' ∧ ∀ i, F s' i → F s i ∨ st.ctr ≤ i) := by
 refine Ji9 (NY.no _ rfl rfl rfl _ _) Tryz.func47 rfl (by kernel_rfl) fun R hR K gr gn => ?_
 generalize hfr : JH gl [.yld id, .ptr pb 0, .ptr tb 0, .ptr xb 0] = fr
 have hF : FsD [] gl [(0, .yld id), (1, .ptr pb 0), (2, .ptr tb 0), (3, .ptr xb 0)] fr := by subst hfr; simp [FsD]
 simp only [FsD] at hF
 clear hfr
 have hFc := C.low s false st hI
 obtain ⟨y0, hy0⟩ : ∃ y, JeB p ++ [58, 32] ++ Jct l ref kind text base = y := ⟨_, rfl⟩
 have hLT : J6 l (.mk ref kind text base nv names kv kids) p = y0 :: cond (decide (0 ≤ ref)) [] (JbT l kids names p 0) := by rw [J6, hy0]; rfl
 rw [hLT] at hR hyok
 obtain ⟨LT, hLTe⟩ : ∃ L, y0 :: cond (decide (0 ≤ ref)) [] (JbT l kids names p 0) = L := ⟨_, rfl⟩
 have hmf := Jha hmay
 obtain ⟨q1, hq1⟩ : ∃ q, q = st.new (.cells [.yld id] 81 true (some 0)) := ⟨_, rfl⟩
 have kq1 : Keep st q1 := by rw [hq1]; exact (Keep.refl st).new' _
 have by1 : q1.box.get st.ctr = some (.cells [.yld id] 81 true (some 0)) := by rw [hq1, Js, if_pos rfl]
 have cq1 : q1.ctr = st.ctr + 1 := by rw [hq1]; rfl
 have hnew : ({ ctr := st.ctr + 1, box := st.box.put st.ctr (.cells [.yld id] 81 true (some 0)) } : St) = q1 := by rw [hq1]; rfl
 clear hq1
 have hpl : p.length ≤ 250 := by omega
 have lp1 := Jb (P := Tryz.prog) (T := 23) (off := 0) a23 z23 ((kq1.box pb hpc).trans hpb) rfl
 obtain ⟨v, q2, hcs, ⟨pt, rfl, hpt⟩, hk2⟩ := Says.use (Jgs gl q1 pv p (hv.keep kq1) hpl hps)
 have hpn := Jfu (p := p) hpl hps
 have hptn : pt.n ≤ 75251 := by rw [← S.len, hpt]; exact hpn
 obtain ⟨v, q3, hcp, ⟨et, rfl, het⟩, hk3⟩ := Says.use (JkU gl q2 pt (by omega))
 rw [hpt] at het
 have k3 : Keep st q3 := kq1.trans (hk2.trans hk3)
 have k13 : Keep q1 q3 := hk2.trans hk3
 have hetn : et.n ≤ 302000 := by rw [← S.len, het]; exact Jmx hpl hps
 have ad0 : ∀ kk, Jf Tryz.prog kk .add 9 (.str et) (.str (S.ofList [58, 32])) = some (.str (et.app (S.ofList [58, 32]))) := fun kk => QB (by rw [JP]; simp; omega)
 obtain ⟨b, hbb⟩ : ∃ b, et.app (S.ofList [58, 32]) = b := ⟨_, rfl⟩
 have hbl : b.toList = JeB p ++ [58, 32] := by rw [← hbb, S.toList_app, het, S.toList_ofList]; rfl
 have hbn : b.n ≤ 302002 := by rw [← hbb, Jbk, JP]; simp; omega
 rw [hbb] at ad0
 have ads : ∀ kk (c : S) (r : List UInt8), c.n ≤ 1000000 → r.length ≤ 1000 → Jf Tryz.prog kk .add 9 (.str c) (.str (S.ofList r)) = some (.str (c.app (S.ofList r))) := fun kk c r hc hr => QB (by rw [JP]; omega)
 have er : ∀ kk, Jf Tryz.prog kk .geq 3 (.int .i64 ref) (.int .i64 0) = some (.bool (decide (0 ≤ ref))) := fun kk => Qr
 have eb : ∀ kk, Jf Tryz.prog kk .geq 3 (.int .i64 base) (.int .i64 0) = some (.bool (decide (0 ≤ base))) := fun kk => Qr
 have hcl3 := k13.ctr
 have tk : ∀ {q : St}, Keep q3 q → TwBox q tb (.mk ref kind text base nv names kv kids) := fun h => ⟨by rw [h.box tb (by have := k3.ctr; omega), k3.box tb htc]; exact htb, Nat.lt_of_lt_of_le htc (Nat.le_trans k3.ctr h.ctr)⟩
 have yk : ∀ {q : St}, Keep q3 q → Jz Tryz.prog q 81 (.ptr st.ctr 0) = some (.yld id) := fun h => Jb (P := Tryz.prog) (off := 0) a81 z81 (by rw [h.box st.ctr (by omega), k13.box st.ctr (by omega)]; exact by1) rfl
 have xk : ∀ {q : St}, Keep q3 q → Jz Tryz.prog q 22 (.ptr xb 0) = some x := fun h => Jb (P := Tryz.prog) (off := 0) a22 z22 (by rw [h.box xb (by have := k3.ctr; omega), k3.box xb hxc]; exact hxb) rfl
 have fin : ∀ (st2 : St) (ds : List Df) (hi : Nat) (s2 : σ) (b : Bool), I s2 b st2 → Outs (F s) st st2 → (∀ i, F s2 i → F s i ∨ st.ctr ≤ i) → MarksOk st.ctr (F s2) st2 ds hi → Qm step (obs s) (y0 :: cond (decide (0 ≤ ref)) [] (JbT l kids names p 0)) = (obs s2, b) → ∃ st3, JC ds st2 = some st3 ∧ ∀ v, R v st3 := fun st2 ds hi s2 b hI2 hO2 hS2 hmk hrun => by
  obtain ⟨st3, m1, m2, m3, m4⟩ := Jgt hmk
  refine ⟨st3, m1, fun v => hR v st3 ?_⟩
  rw [hrun]
  exact ⟨s2, rfl, C.stable s2 b st2 st3 hI2 (by omega) m4, ⟨by rw [m2]; exact hO2.ctr, fun i hi hf => by rw [m3 i (.inl hi)]; exact hO2.box i hi hf⟩, hS2⟩
 have hgr1 : pre (obs s) y0 := hyok.1
 obtain ⟨l0, l1, l2, l3, l4, l5, lt⟩ := (tk (.refl q3)).ld
 refine Ks_ (Ka_ (gs := [none]) fun K1 gK => ?_)
 simp (disch := omega) [hF, hnew, Jn]
 refine gK _ _ (Ks_ (Ka_ (gs := [none, none, none, none, none]) fun K1 gK => ?_))
 simp (disch := omega) [hF, lp1, hcs, hcp, ad0]
 refine gK _ _ (Ks_ (Ks_ (Ka_ (gs := [none, none, none]) fun K1 gK => ?_)))
 simp (disch := omega) [hF, gT0, er, l0]
 refine gK _ _ ?_
 by_cases h0 : 0 ≤ ref
 ·
  refine Kt_ (by simp (disch := omega) [h0]) ?_
  have hr1 : ref < (l.length : Int) := by omega
  obtain ⟨qt, hqt⟩ : ∃ q : St, ({ ctr := q3.ctr + 9, box := q3.box } : St) = q := ⟨_, rfl⟩
  have kt : Keep q3 qt := by rw [← hqt]; exact Jcg _ _
  obtain ⟨v, q4, hcf, ⟨ft, rfl, hft, hftn⟩, k4⟩ := Says.use (JoB gl hh qt x l hx hok hs hl hm ref h0 hr1)
  have k34 : Keep q3 q4 := kt.trans k4
  have a1 := fun kk => ads kk b [97, 115, 32] (by omega) (by simp)
  have a2 : ∀ kk, Jf Tryz.prog kk .add 9 (.str (b.app (S.ofList [97, 115, 32]))) (.str ft) = some (.str ((b.app (S.ofList [97, 115, 32])).app ft)) := fun kk => QB (by rw [Jbk, JP]; simp; omega)
  have hz1 : ((b.app (S.ofList [97, 115, 32])).app ft).toList = y0 := by rw [← hy0, S.toList_app, S.toList_app, hbl, S.toList_ofList, hft]; unfold Jct; rw [decide_eq_true h0, cond_true, List.append_assoc]
  have hzn1 : ((b.app (S.ofList [97, 115, 32])).app ft).n ≤ 2000000 := by rw [Jbk, Jbk, JP]; simp; omega
  obtain ⟨s1, q5, hcy, ho1, hI5, hO5, hS5⟩ := C.round s q4 y0 [.str ((b.app (S.ofList [97, 115, 32])).app ft)] (C.stable s false st q4 hI (k3.trans k34).ctr fun i hi => (k3.trans k34).box i (hFc i hi)) ⟨_, rfl, hz1, hzn1⟩ hgr1
  have xt := xk kt
  have yt := yk kt
  have y4 := yk k34
  have x4 := xk k34
  have lt0 := (tk kt).ld.l0
  have lt04 := (tk k34).ld.l0
  have vqx := Jdm hx hok hs (by omega)
  obtain ⟨bo, hbo⟩ : ∃ b, (step (obs s) y0).2 = b := ⟨_, rfl⟩
  rw [hbo] at hcy hI5
  have hrun1 : Qm step (obs s) (y0 :: cond (decide (0 ≤ ref)) [] (JbT l kids names p 0)) = (obs s1, !bo) := by rw [decide_eq_true h0, cond_true, Jm6, ho1, hbo]
  obtain ⟨st3, m1, m2⟩ := fin q5 [] q5.ctr s1 (!bo) hI5 ((Outs.of (k3.trans k34)).trans hO5) (fun i hi => (hS5 i hi).imp_right fun h => by have := (k3.trans k34).ctr; omega) (by show st.ctr ≤ q5.ctr; have := (k3.trans k34).ctr; have := hO5.ctr; omega) hrun1
  have yq1 : veq 1000000000 (.yld id) (.yld id) = true := QA _ (Nat.le_of_ble_eq_true rfl)
  refine Ks_ (Kj_ (b := [0, 0, 2, 0, 0, 16, 56, 126, 255]) (rs := [(3, 4), (0, 3), (7, 2)]) fun K1 gK => ?_)
  simp (disch := omega) [hF, gT0, h0, hqt, hcf, a1, a2, hcy, xt, yt, y4, lt0, vqx, yq1]
  refine gK _ _ ?_
  refine Kq_ (gr _ _ ⟨.inl rfl, st3, ?_, [], rfl, m2 _⟩)
  simp [hF]
  exact m1
 ·
  refine Kf_ (by simp (disch := omega) [h0]) ?_
  have hrn : ref < 0 := by omega
  obtain ⟨hk4, hk5, hk6⟩ := Jm4 hmay hrn
  have hmf2 : ((kind = 0 ∨ kind = 1 ∨ kind = 3) ∧ kids = [] ∧ names = []) ∨ (kind = 2 ∧ names.length = kids.length ∧ (0 ≤ base → base < (l.length : Int)) ∧ ∀ t ∈ kids, Jae l t = true) := by
   rcases hmf with h | h
   ·exact absurd h.1 h0
   ·exact h.2
  have hnk : names.length = kids.length := by rcases hmf2 with h | h; rw [h.2.1, h.2.2]; rfl; exact h.2.1
  have hbr : 0 ≤ base → base < (l.length : Int) := fun hb => by
   rcases hmf2 with h | h
   ·have := hk6 (by omega); omega
   ·exact h.2.2.1 hb
  rw [decide_eq_false h0, cond_false] at fin
  have hyok2 : (step (obs s) y0).2 = true → GoodRun step pre (step (obs s) y0).1 (JbT l kids names p 0) := fun h => by
   have := hyok.2 h
   rwa [decide_eq_false h0, cond_false] at this
  obtain ⟨qt, hqt⟩ : ∃ q : St, ({ ctr := q3.ctr + 11, box := q3.box } : St) = q := ⟨_, rfl⟩
  have kt : Keep q3 qt := by rw [← hqt]; exact Jcg _ _
  obtain ⟨v, q4, hce, ⟨xt, rfl, hxt⟩, k4⟩ := Says.use (JfV gl qt text (by omega))
  have k34 : Keep q3 q4 := kt.trans k4
  have hxn : xt.n ≤ 10000 := by
   have h1 := congrArg List.length hxt
   have h2 := JaF text.toList
   rw [S.len] at h1
   rw [S.len] at h2
   omega
  have hkx := kix hk4
  have hkl4 := kld hk4
  have hkwn := Joa kind
  have lt2 := (tk kt).ld.l2
  have lt1 := (tk kt).ld.l1
  have lt14 := (tk k34).ld.l1
  have lt24 := (tk k34).ld.l2
  have a1 : ∀ kk, Jf Tryz.prog kk .add 9 (.str (S.ofList (Jcf kind))) (.str xt) = some (.str ((S.ofList (Jcf kind)).app xt)) := fun kk => QB (by rw [JP]; omega)
  have a2 : ∀ kk, Jf Tryz.prog kk .add 9 (.str b) (.str ((S.ofList (Jcf kind)).app xt)) = some (.str (b.app ((S.ofList (Jcf kind)).app xt))) := fun kk => QB (by rw [Jbk, JP]; omega)
  obtain ⟨b5, hb5⟩ : ∃ b5, b.app ((S.ofList (Jcf kind)).app xt) = b5 := ⟨_, rfl⟩
  have hbl5 : b5.toList = JeB p ++ [58, 32] ++ (Jcf kind ++ esc text.toList) := by rw [← hb5, S.toList_app, S.toList_app, hbl, S.toList_ofList, hxt]
  have hbn5 : b5.n ≤ 320000 := by rw [← hb5, Jbk, Jbk, JP]; omega
  rw [hb5] at a2
  have lb4 := (tk k34).ld.l3
  refine Kk_ (Ks_ (Kj_ (b := [0, 0, 2, 6, 14, 0, 32, 96, 254, 511, 1023]) (rs := [(5, 3), (0, 5), (8, 3)]) fun K1 gK => ?_))
  simp (disch := omega) [hF, gT1, gT2, h0, hqt, hce, hkx, hkl4, lt1, lt2, lt14, a1, a2, hw1]
  refine gK _ _ (Ks_ (Ks_ (Ka_ (gs := [none, none, none]) fun K1 gK => ?_)))
  simp (disch := omega) [hF, gT3, eb, lb4]
  refine gK _ _ ?_
  refine Km_ (fun fr st' => ∃ (t : S), FsD [] gl [(1, .ptr pb 0), (2, .ptr tb 0), (3, .ptr xb 0), (4, .ptr st.ctr 0), (5, .str t)] fr ∧ t.toList = y0 ∧ t.n ≤ 700000 ∧ Keep q3 st') ?_ ?_
  ·as_aux_lemma =>
   intro K1 gm1 go1
   by_cases hb0 : 0 ≤ base
   ·
    refine Kt_ (by simp (disch := omega) [hb0]) ?_
    have k2 : kind = 2 := by
     by_cases h : kind = 2
     ·exact h
     ·have := hk6 h; omega
    obtain ⟨v, q6, hcf, ⟨ft, rfl, hft, hftn⟩, k6⟩ := Says.use (JoB gl hh q4 x l hx hok hs hl hm base hb0 (hbr hb0))
    have x4 := xk k34
    have a5 : ∀ kk, Jf Tryz.prog kk .add 9 (.str (S.ofList [32, 111, 118, 101, 114, 32])) (.str ft) = some (.str ((S.ofList [32, 111, 118, 101, 114, 32]).app ft)) := fun kk => QB (by rw [JP]; simp; omega)
    have a6 : ∀ kk, Jf Tryz.prog kk .add 9 (.str b5) (.str ((S.ofList [32, 111, 118, 101, 114, 32]).app ft)) = some (.str (b5.app ((S.ofList [32, 111, 118, 101, 114, 32]).app ft))) := fun kk => QB (by rw [Jbk, JP]; simp; omega)
    refine Ka_ (gs := [none, none, none, none, none, none, none, none]) fun K1 gK => ?_
    simp (disch := omega) [hF, gT3, lb4, hb0, x4, hcf, a5, a6]
    refine gK _ _ ?_
    exact gm1 _ _ ⟨b5.app ((S.ofList [32, 111, 118, 101, 114, 32]).app ft), by simp [FsD, hF], by (rw [S.toList_app, S.toList_app, hbl5, S.toList_ofList, hft, ← hy0, ← Jm5 hrn hk4 hk5 hk6]; unfold JjO; rw [decide_eq_true hb0]; simp), by rw [Jbk, Jbk, JP]; simp; omega, k34.trans k6⟩
   ·
    refine Kf_ (by simp (disch := omega) [hb0]) (Kk_ ?_)
    exact gm1 _ _ ⟨b5, by simp [FsD, hF, hb0], by (rw [hbl5, ← hy0, ← Jm5 hrn hk4 hk5 hk6]; unfold JjO; rw [decide_eq_false hb0]; simp), by omega, k34⟩
  ·as_aux_lemma =>
   clear hF
   rintro fr st' ⟨t, hF, htl, htn, hkq⟩
   simp only [FsD] at hF
   obtain ⟨s1, q5, hcy, ho1, hI5, hO5, hS5⟩ := C.round s st' y0 [.str t] (C.stable s false st st' hI (k3.trans hkq).ctr fun i hi => (k3.trans hkq).box i (hFc i hi)) ⟨t, rfl, htl, by omega⟩ hgr1
   have y5 := yk hkq
   have k3q := k3.trans hkq
   have ck := k3q.ctr
   have ck2 := hkq.ctr
   obtain ⟨bo, hbo⟩ : ∃ b, (step (obs s) y0).2 = b := ⟨_, rfl⟩
   rw [hbo] at hcy hI5
   have hsub5 : ∀ i, F s1 i → F s i ∨ st.ctr + 1 ≤ i := fun i hi => (hS5 i hi).imp_right fun h => by omega
   have hst5 : Outs (F s) st q5 := (Outs.of k3q).trans hO5
   have c5 := hst5.ctr
   have byF : ¬ F s st.ctr := fun h => by have := hFc _ h; omega
   have by5 : q5.box.get st.ctr = some (.cells [.yld id] 81 true (some 0)) := by rw [hO5.box _ (by omega) byF, hkq.box _ (by omega), k13.box _ (by omega)]; exact by1
   have bt5 : TwBox q5 tb (.mk ref kind text base nv names kv kids) := ⟨by rw [hst5.box _ htc htf]; exact htb, by omega⟩
   have hFc5 := C.low _ _ q5 hI5
   have cq5 : st.ctr + 1 ≤ q5.ctr := by have := hO5.ctr; omega
   have hlk := hkv.len Tryz.underlying24
   refine Ks_ (Ks_ (Ka_ (gs := [none, none, none, none]) fun K1 gK => ?_))
   simp (disch := omega) [hF, y5, hcy]
   refine gK _ _ ?_
   cases bo with
   | true =>
    refine Kf_ (by simp (disch := omega) []) ?_
    have m5 := bt5.ld.l5
    refine Kk_ (Ks_ (Ka_ (gs := [none, none, none, none]) fun K1 gK => ?_))
    simp (disch := omega) [hF, gT5, m5, hlk]
    refine gK _ _ ?_
    refine Kl_ (kids.length) (fun i fr st' => ∃ (ds : List Df) (s' : σ), FsD ds gl [(1, .ptr pb 0), (2, .ptr tb 0), (3, .ptr xb 0), (4, .ptr st.ctr 0), (50, kv), (51, .int .i64 (kids.length : Int)), (52, .int .i64 (i : Int))] fr ∧ i ≤ kids.length ∧ I s' false st' ∧ (Outs (F s) st st' ∧ (∀ i, F s' i → F s i ∨ st.ctr ≤ i) ∧ ¬ F s' pb ∧ ¬ F s' tb ∧ ¬ F s' xb ∧ ¬ F s' st.ctr ∧ Apart (F s') pv) ∧ (st'.box.get st.ctr = some (.cells [.yld id] 81 true (some 0)) ∧ st.ctr + 1 ≤ st'.ctr) ∧ MarksOk st.ctr (F s') st' ds st'.ctr ∧ (Qm step (obs s) (y0 :: JbT l kids names p 0) = Qm step (obs s') (JbT l kids names p i) ∧ GoodRun step pre (obs s') (JbT l kids names p i))) (0) (fun fr st' => ∃ (ds : List Df) (s' : σ), FsD ds gl [] fr ∧ I s' false st' ∧ Outs (F s) st st' ∧ (∀ i, F s' i → F s i ∨ st.ctr ≤ i) ∧ MarksOk st.ctr (F s') st' ds st'.ctr ∧ Qm step (obs s) (y0 :: JbT l kids names p 0) = (obs s', false)) ?_ ?_ ?_ ?_
    ·exact ⟨[], s1, by simp [FsD, hF], Nat.zero_le _, hI5, ⟨hst5, fun i hi => (hsub5 i hi).imp_right fun h => by omega, fun h => (hsub5 _ h).elim hpf fun h2 => by omega, fun h => (hsub5 _ h).elim htf fun h2 => by omega, fun h => (hsub5 _ h).elim hxf fun h2 => by omega, fun h => (hsub5 _ h).elim byF fun h2 => by omega, Apart.sub (st := st) (fun i hi => (hsub5 i hi).imp_right fun h => by omega) hv hap⟩, ⟨by5, cq5⟩, (by show st.ctr ≤ q5.ctr; omega), ⟨by rw [Qm, hbo, ho1], by rw [ho1]; exact hyok2 hbo⟩⟩
    ·rintro i fr st' ⟨ds, s', _, hi, hI', ⟨hO', hS', hp', ht', hx', hyf', hap'⟩, ⟨by', cy'⟩, hmk, ⟨hrun, hgs⟩⟩
     omega
    ·as_aux_lemma =>
     clear hF
     rintro i fr st' ⟨ds, s', hF, hi, hI', ⟨hO', hS', hp', ht', hx', hyf', hap'⟩, ⟨by', cy'⟩, hmk, ⟨hrun, hgs⟩⟩ K2 gk2 gx2 go2
     simp only [FsD] at hF
     have gr2 := fun fr st h => go2 AE.ret fr st trivial (gr fr st h)
     refine Ks_ (Ka_ (gs := [none]) fun K1 gK => ?_)
     simp (disch := omega) [hF]
     refine gK _ _ (Ks_ ?_)
     by_cases hlt : i < kids.length
     ·
      refine Kt_ (by simp (disch := omega) [hlt]) ?_
      have hlt' : i < names.length := by omega
      have hkin := List.getElem_mem hlt
      have hki := hkv.ix (fun t _ => t.len6) Tryz.underlying24 JhJ (k := .i64) (a := (i : Int)) (by omega) (by omega)
      have hkd := fun st => Jmj (st := st) hlt
      obtain ⟨sB, wB, cB, kB, bB⟩ := JpB (st := st') (hks _ hkin)
      refine Kk_ (Ks_ ?_)
      refine Kb_ fun K3 gn3 gx3 go3 => ?_
      have gr3 := fun fr st h => go3 AE.ret fr st trivial (gr2 fr st h)
      refine Ks_ (Ka_ (gs := [none, none, none, none, none, none]) fun K1 gK => ?_)
      simp (disch := omega) [hF, hlt, hki, hkd, Jeh, wB, Ja, JZ]
      refine gK _ _ ?_
      have ihk := ih i hlt hlt'
      have hgk := hgs
      rw [JhX hlt hlt'] at hgk
      have hgk := hgk.app
      refine Ks_ ?_
      refine Km_ (fun fr st' => ∃ (pb2 tb2 xb2 : Nat) (pv2 : V), FsD ds gl [(1, .ptr pb 0), (2, .ptr tb 0), (3, .ptr xb 0), (4, .ptr st.ctr 0), (50, kv), (51, .int .i64 (kids.length : Int)), (52, .int .i64 (i : Int)), (72, .fn 47 [] [.ptr pb2 0, .ptr tb2 0, .ptr xb2 0])] fr ∧ I s' false st' ∧ Outs (F s) st st' ∧ (st'.box.get st.ctr = some (.cells [.yld id] 81 true (some 0)) ∧ st.ctr + 1 ≤ st'.ctr) ∧ MarksOk st.ctr (F s') st' ds st'.ctr ∧ (st'.box.get pb2 = some (.cells [pv2] 23 true (some 0)) ∧ st'.box.get tb2 = some (.cells kids[i].cells 26 true (some 0)) ∧ st'.box.get xb2 = some (.cells [x] 22 true (some 0)) ∧ (pb2 < st'.ctr ∧ tb2 < st'.ctr ∧ xb2 < st'.ctr) ∧ (st.ctr < pb2 ∧ st.ctr < tb2 ∧ st.ctr < xb2)) ∧ Vw st' pv2 (p ++ [names[i]]) ∧ (Apart (F s') pv2 ∧ Apart (fun i => i = st.ctr) pv2 ∧ ¬ F s' pb2 ∧ ¬ F s' tb2 ∧ ¬ F s' xb2)) ?_ ?_
      ·as_aux_lemma =>
       intro K4 gm4 go4
       have kst : Keep st' sB := kB
       have oB : Outs (F s) st sB := hO'.trans (.of kB)
       obtain ⟨sT, hsT⟩ : ∃ s : St, ({ ctr := sB.ctr + 16, box := sB.box } : St) = s := ⟨_, rfl⟩
       have kT : Keep sB sT := by rw [← hsT]; exact Jcg _ _
       have gp : ∀ {u : St}, Keep sB u → Jz Tryz.prog u 23 (.ptr pb 0) = some pv := fun h => Jb (P := Tryz.prog) (off := 0) a23 z23 (by rw [h.box pb (by have := oB.ctr; omega), oB.box pb hpc hpf]; exact hpb) rfl
       have gx : ∀ {u : St}, Keep sB u → Jz Tryz.prog u 22 (.ptr xb 0) = some x := fun h => Jb (P := Tryz.prog) (off := 0) a22 z22 (by rw [h.box xb (by have := oB.ctr; omega), oB.box xb hxc hxf]; exact hxb) rfl
       have gt : ∀ {u : St}, Keep sB u → Jz Tryz.prog u 26 (.ptr st'.ctr 0) = some (.agg kids[i].cells) := fun h => JhK (by rw [h.box st'.ctr (by omega)]; exact bB)
       have gn4 : ∀ {u : St}, Keep sB u → Jz Tryz.prog u 23 (.ptr tb 4) = some nv := fun h => by
        have hh2 : TwBox sB tb (.mk ref kind text base nv names kv kids) := ⟨by rw [oB.box tb htc htf]; exact htb, by have := oB.ctr; omega⟩
        exact (hh2.keep h).ld.l4
       have hv' := hv.out oB hap
       have lpv := hv'.len Tryz.underlying23
       have hnd := fun st => (hn.vw st).ld z9 a9 hlt'
       have hns := (hn.vw st).ix Tryz.underlying23 z9 (k := .i64) (a := (i : Int)) (by omega) (by omega)
       obtain ⟨y, hy1, hy2⟩ := Jk7 hv' (by omega)
       obtain ⟨sC, hsC⟩ : ∃ s : St, s = { ctr := sB.ctr + 16, box := sB.box.put (sB.ctr + 13) (.cells [.str names[i]] 9 true (some 0)) } := ⟨_, rfl⟩
       have kC : Keep sB sC := by rw [hsC]; exact ((Keep.refl sB).tick 16).put (by show sB.ctr ≤ _; omega) _
       have gC : sC.box.get (sB.ctr + 13) = some (.cells [.str names[i]] 9 true (some 0)) := by rw [hsC]; simp [Tr.get_put]
       have cC : sC.ctr = sB.ctr + 16 := by rw [hsC]
       have mC : Ja4 sC (.ms (sB.ctr + 13) 0 1 1 (some 1)) [.str names[i]] := (Mine.mk (lo := 0) (e := 9) (Nat.zero_le _) (by omega) gC rfl).src rfl
       have vC : Vw sC y p := by
        have := hv'.keep kC
        exact Vw.slice3 this hy1
       have eA := hy2 sC _ names[i] vC mC
       rw [cC] at eA
       obtain ⟨sD, hsD⟩ : ∃ s : St, s = sC.new (.cells ((p ++ [names[i]]).map .str) 9 false (some 0)) := ⟨_, rfl⟩
       rw [← hsD] at eA
       have kD : Keep sB sD := by rw [hsD]; exact kC.new' _
       have cD : sD.ctr = sB.ctr + 17 := by rw [hsD, JY, cC]
       have gD : sD.box.get (sB.ctr + 16) = some (.cells ((p ++ [names[i]]).map .str) 9 false (some 0)) := by rw [hsD, Js, if_pos cC.symm]
       have vD : Vw sD (.ms (sB.ctr + 16) 0 (p.length + 1) 1 none) (p ++ [names[i]]) := by
        have := Mine.ms (lo := 0) (e := 9) (st := sD) (sB.ctr + 16) (p.length + 1) none ((p ++ [names[i]]).map .str) false (Nat.zero_le _) (by omega) gD (by simp) (fun c hc => by cases hc)
        rw [List.take_of_length_le (by simp)] at this
        exact this.vw
       obtain ⟨v, sE, hcE, rfl, hsE⟩ := Says.use (Jgh gl sD x (.ms (sB.ctr + 16) 0 (p.length + 1) 1 none) kids[i] hx.cells1 hx.one (hks _ hkin) rfl rfl)
       have kDE : Keep sD sE := by rw [hsE]; exact (((Keep.refl sD).new' _).new' _).new' _
       have kE : Keep st' sE := kB.trans (kD.trans kDE)
       have vqx := Jdm hx hok hs (by omega)
       have vqp := Jkd hv' (by omega)
       have vqn : veq 1000000000 nv nv = true := QA _ (by have := Jcn hn; omega)
       have vqt := hvt _ hkin
       have hsC' := hsC.symm
       have p1 := gp (.refl sB)
       have p2 := gp kT
       have p3 := gp kC
       have p4 := gp kD
       have x1 := gx (.refl sB)
       have x2 := gx kT
       have x3 := gx kC
       have x4' := gx kD
       have t1 := gt (.refl sB)
       have t2 := gt kT
       have t3 := gt kC
       have t4 := gt kD
       have n1 := gn4 (.refl sB)
       have n2 := gn4 kT
       have n3 := gn4 kC
       have n4 := gn4 kD
       refine Kj_ (b := [0, 0, 0, 0, 8, 0, 32, 124, 0, 256, 0, 1792, 3840, 7936, 16380, 32767]) (rs := [(2, 13), (0, 2), (15, 1)]) fun K1 gK => ?_
       simp (disch := omega) [hF, gT4, p1, x1, x4', t1, t4, n1, lpv, hnd, hy1, hns, bs1, hsC', eA, hcE, vqx, vqp, vqn, vqt, J2, JZ, Tryz.underlying23]
       refine gK _ _ ?_
       have cE : sE.ctr = sD.ctr + 3 := by rw [hsE]; rfl
       have gE0 : sE.box.get sD.ctr = some (.cells [x] 22 true (some 0)) := by rw [hsE, Js, if_neg (by rw [JY, JY]; omega), Js, if_neg (by rw [JY]; omega), Js, if_pos rfl]
       have gE1 : sE.box.get (sD.ctr + 1) = some (.cells kids[i].cells 26 true (some 0)) := by rw [hsE, Js, if_neg (by rw [JY, JY]; omega), Js, if_pos (show sD.ctr + 1 = (sD.new (.cells [x] 22 true (some 0))).ctr from rfl)]
       have gE2 : sE.box.get (sD.ctr + 2) = some (.cells [.ms (sB.ctr + 16) 0 (p.length + 1) 1 none] 23 true (some 0)) := by rw [hsE, Js, if_pos (show sD.ctr + 2 = ((sD.new (.cells [x] 22 true (some 0))).new (.cells kids[i].cells 26 true (some 0))).ctr from rfl)]
       have hFn : ∀ i, st'.ctr ≤ i → ¬ F s' i := fun i hi h => by have := C.low s' false st' hI' i h; omega
       have hmkE : MarksOk st.ctr (F s') sE ds sE.ctr := hmk.outs (Outs.of kE) (fun i hi => .inl hi) (Nat.le_refl _) (by have := kE.ctr; omega)
       exact gm4 _ _ ⟨sD.ctr + 2, sD.ctr + 1, sD.ctr, .ms (sB.ctr + 16) 0 (p.length + 1) 1 none, by simp [FsD, hF], C.stable s' false st' sE hI' kE.ctr (fun j hj => kE.box j (C.low s' false st' hI' j hj)), hO'.trans (.of kE), ⟨by rw [kE.box _ (by omega)]; exact by', by omega⟩, hmkE, ⟨gE2, gE1, gE0, ⟨by omega, by omega, by omega⟩, ⟨by omega, by omega, by omega⟩⟩, vD.keep kDE, ⟨hFn (sB.ctr + 16) (by omega), (by show ¬ (sB.ctr + 16 = st.ctr); omega), hFn _ (by omega), hFn _ (by omega), hFn _ (by omega)⟩⟩
      ·as_aux_lemma =>
       clear hF
       rintro fr st' ⟨pb2, tb2, xb2, pv2, hF, hI4, hO4, ⟨by4, cy4⟩, hmk4, ⟨bp4, bt4, bx4, ⟨cp4, ct4, cx4⟩, ⟨dp4, dt4, dx4⟩⟩, hv4, ⟨hap4, hap4y, hp4, ht4, hx4⟩⟩
       simp only [FsD] at hF
       refine Kb_ fun K5 gn5 gx5 go5 => ?_
       have gr5 := fun fr st h => go5 AE.ret fr st trivial (gr3 fr st h)
       refine JpA ihk hgk.1 C (s := s') (by simp [hF]) hI4 by4 (by omega) hyf' cp4 ct4 cx4 hp4 ht4 hx4 (by omega) (by omega) (by omega) bp4 bt4 bx4 hv4 hap4 hap4y (by simp [hF]) (by simp [hF]) ?_ ?_ ?_ ?_
       ·as_aux_lemma =>
        intro id' fr' st' z K h73 h4 hd hg hkk
        have hF : fr'.at 4 = .ptr st.ctr 0 ∧ fr'.at 73 = .str z ∧ fr'.ds = [] ∧ fr'.gl = gl := ⟨h4, h73, hd, hg⟩
        refine Ka_ (gs := [none]) fun K1 gK => ?_
        simp (disch := omega) [hF]
        refine gK _ _ ?_
        exact hkk _ (by simp []) (by simp [hF]) (by simp [hF]) (by simp [hF])
       ·as_aux_lemma =>
        intro id' fr' st' v st2 z K h4 h8 hd hg hyb hcall hkt hkf
        have hF : fr'.at 4 = .ptr st.ctr 0 ∧ fr'.at 8 = .str z ∧ fr'.ds = [] ∧ fr'.gl = gl := ⟨h4, h8, hd, hg⟩
        have lya := Jb (P := Tryz.prog) (off := 0) a81 z81 hyb rfl
        have gq : ∀ fr st, st = st2 ∧ v = false → K .ret fr st := fun fr st h => by rw [h.1]; exact hkf h.2 fr
        refine Kb_ fun K6 gn6 gx6 go6 => ?_
        have gr6 := fun fr st h => go6 AE.ret fr st trivial (gq fr st h)
        refine Ks_ (Ka_ (gs := [none, none, none, none]) fun K1 gK => ?_)
        simp (disch := omega) [hF, lya, hcall]
        refine gK _ _ ?_
        cases v with
        | true =>
         refine Kf_ (by simp (disch := omega) []) (Kk_ (gn6 _ _ ?_))
         exact hkt rfl _
        | false =>
         refine Kt_ (by simp (disch := omega) []) ?_
         exact Kq_ (gr6 _ _ ⟨rfl, rfl⟩)
       ·as_aux_lemma =>
        intro st2 s5 hr2 ho5 hI5 hO5 hS5 hmk5 hc5
        obtain ⟨f1, f2, f3, f4, f50, f51, f52, f72, fds, fgl⟩ := hF
        generalize hfr6 : ({ fr with ds := .mark st'.ctr :: fr.ds } : Fr) = fr6
        have hF : fr6.at 1 = .ptr pb 0 ∧ fr6.at 2 = .ptr tb 0 ∧ fr6.at 3 = .ptr xb 0 ∧ fr6.at 4 = .ptr st.ctr 0 ∧ fr6.at 50 = kv ∧ fr6.at 51 = .int .i64 (kids.length : Int) ∧ fr6.at 52 = .int .i64 (i : Int) ∧ fr6.ds = .mark st'.ctr :: ds ∧ fr6.gl = gl := by
         subst hfr6
         exact ⟨f1, f2, f3, f4, f50, f51, f52, by show Df.mark st'.ctr :: fr.ds = _; rw [fds], fgl⟩
        refine gn5 _ _ (gn3 _ _ (Ka_ (gs := [none, none]) fun K1 gK => ?_))
        simp (disch := omega) [hF]
        refine gK _ _ ?_
        have hcc := hO4.ctr
        have hS6 : ∀ m, F s5 m → F s m ∨ st.ctr ≤ m := fun j hj => (hS5 j hj).elim (hS' j) fun h => .inr (by omega)
        have hmf3 : ¬ F s5 st'.ctr := fun h => (hS5 _ h).elim (fun h2 => by have := C.low s' false st' hI4 _ h2; omega) fun h2 => by omega
        have hmk6 : MarksOk st.ctr (F s5) st2 (.mark st'.ctr :: ds) st2.ctr := ⟨by omega, hmf3, hmk5, hmk4.outs hO5 (fun i hi => (hS5 i hi).imp_right fun h => by omega) (Nat.le_refl _) (Nat.le_refl _)⟩
        refine gk2 (i + 1) _ _ (by omega) ⟨.mark st'.ctr :: ds, s5, by simp [FsD, hF], by omega, hI5, ⟨hO4.trans' hO5 hS', hS6, fun h => (hS5 _ h).elim hp' fun h2 => by omega, fun h => (hS5 _ h).elim ht' fun h2 => by omega, fun h => (hS5 _ h).elim hx' fun h2 => by omega, fun h => (hS5 _ h).elim hyf' fun h2 => by omega, Apart.sub (st := st) (fun i hi => (hS5 i hi).imp_right fun h => by omega) hv hap'⟩, ⟨by rw [hO5.box _ (by omega) hyf']; exact by4, by omega⟩, hmk6, ⟨by rw [hrun, JhX hlt hlt', Jc2, hr2, ho5], by rw [ho5]; exact hgk.2 hr2⟩⟩
       ·as_aux_lemma =>
        intro st2 s5 hr2 ho5 hI5 hO5 hS5 hmk5 hc5
        refine gr5 _ _ ?_
        have hcc := hO4.ctr
        have hS6 : ∀ m, F s5 m → F s m ∨ st.ctr ≤ m := fun j hj => (hS5 j hj).elim (hS' j) fun h => .inr (by omega)
        have hmf3 : ¬ F s5 st'.ctr := fun h => (hS5 _ h).elim (fun h2 => by have := C.low s' false st' hI4 _ h2; omega) fun h2 => by omega
        have hmk6 : MarksOk st.ctr (F s5) st2 (.mark st'.ctr :: ds) st2.ctr := ⟨by omega, hmf3, hmk5, hmk4.outs hO5 (fun i hi => (hS5 i hi).imp_right fun h => by omega) (Nat.le_refl _) (Nat.le_refl _)⟩
        obtain ⟨st3, m1, m2⟩ := fin st2 (.mark st'.ctr :: ds) st2.ctr s5 true hI5 (hO4.trans' hO5 hS') hS6 hmk6 (by
         rw [hrun, JhX hlt hlt', Jc2, hr2]
         exact Prod.ext ho5.symm hr2)
        refine ⟨.inl rfl, st3, ?_, [], rfl, m2 _⟩
        show JC (Df.mark st'.ctr :: fr.ds) st2 = _
        rw [hF.2.2.2.2.2.2.2.2.1]
        exact m1
     ·
      refine Kf_ (by simp (disch := omega) [hlt]) ?_
      exact Kx_ (gx2 _ _ ⟨ds, s', by simp [FsD, hF, hlt], hI', hO', hS', hmk, by rw [hrun, Job (by omega)]; rfl⟩)
    ·as_aux_lemma =>
     clear hF
     rintro fr st' ⟨ds, s', hF, hI', hO', hS', hmk, hrun⟩
     simp only [FsD] at hF
     obtain ⟨st3, m1, m2⟩ := fin st' ds st'.ctr s' false hI' hO' hS' hmk hrun
     exact gn fr st' ⟨.inr rfl, st3, by rw [hF.1]; exact m1, [], rfl, m2 _⟩
   | false =>
    refine Kt_ (by simp (disch := omega) []) ?_
    obtain ⟨st3, m1, m2⟩ := fin q5 [] q5.ctr s1 true hI5 hst5 (fun i hi => (hsub5 i hi).imp_right fun h => by omega) (by show st.ctr ≤ q5.ctr; omega) (by rw [Qm, hbo, ho1])
    refine Kq_ (gr _ _ ⟨.inl rfl, st3, ?_, [], rfl, m2 _⟩)
    simp [hF]
    exact m1
omit [NZ] in
theorem Jm7 (gl : Gl) {aL : List V} (hh : Hits gl aL) (hw1 : gl.get 1 = some kindsV) (x : V) (l : List Fw) (hx : Row Fw.cells x l) (hok : ∀ f ∈ l, f.ok) (hs : ∀ f ∈ l, f.small) (hl : l.length ≤ 60) (hm : MayF l) {t : Tw} (hto : t.ok) : t.small → t.nodes ≤ 100000 → Jae l t = true → ∀ p : List S, p.length + t.nodes ≤ 250 → (∀ s ∈ p, s.n ≤ 300) → Jk0 gl x l t p := by
 induction hto with
 | mk ref kind text base nv names kv kids hk hn hkv hks ih =>
  intro hsm hnd hmay p hp hps
  cases hsm with
  | mk _ _ _ _ _ _ _ _ ht hnl hnt hkl hks' =>
   have hz : ∀ t ∈ kids, Jaj t.cells ≤ 1000 * t.nodes := fun t ht => Jgb (hks t ht) (hks' t ht)
   have hkn : QC kids ≤ 100000 := by simp only [Tw.nodes] at hnd; omega
   have hp' : p.length + (QC kids + 1) ≤ 250 := by simpa only [Tw.nodes] using hp
   intro σ τ obs step I F id s st pb tb xb pv pre hyok C hI hpc htc hxc hpf htf hxf hpb htb hxb hv hap
   refine Jj9 gl hh hw1 x l hx hok hs hl hm ref kind text base nv names kv kids hk hn hkv hks ht hnl hnt hkl (fun t ht => QA _ ?_) hmay p hp' hps (fun i hi hi' => ?_) st hyok C hI hpc htc hxc hpf htf hxf hpb htb hxb hv hap
   ·have := hz t ht
    have := Jca ht
    show Jaj t.cells + 1 < _; omega
   ·have hin := List.getElem_mem hi
    have hn1 := Jca hin
    have hmk : Jae l kids[i] = true := by
     rcases Jha hmay with h | h
     ·have h2 := hmay
      have h3 : ¬ ref = -1 := by omega
      simp only [Jae, h3, decide_false, cond_false, Bool.and_eq_true, decide_eq_true_eq] at h2
      omega
     ·rcases h.2 with h2 | h2
      ·rw [h2.2.1] at hi; simp at hi
      ·exact h2.2.2.2 _ hin
    exact ih _ hin (hks' _ hin) (by omega) hmk _ (by simp; omega) (JjP hps (hnt _ (List.getElem_mem hi')))
end Go.Vm
namespace Go.Vm
open Go Go.Proofs Go.Pa
variable [Memo]
theorem Jo5 {gl : Gl} {x : V} {l : List Fw} {t : Tw} {p : List S} (hp : Jk0 gl x l t p) {σ τ : Type} {obs : σ → τ} {step : τ → List UInt8 → τ × Bool} {pre : τ → List UInt8 → Prop} {J : σ → Bool → St → Prop} {G : σ → Nat → Prop}
  (low : ∀ s b st, J s b st → ∀ i, G s i → i < st.ctr) (stable : ∀ s b st st', J s b st → st.ctr ≤ st'.ctr → (∀ i, G s i → st'.box.get i = st.box.get i) → J s b st')
  {s : σ} (hyok : GoodRun step pre (obs s) (J6 l t p)) {st : St} {fr : Fr} {g : Operand} {q dst : Tmp} {A B : Code} {k : List Code} {Q : AE → Fr → St → Prop} {pb tb xb : Nat} {pv : V} (hg : ev fr g = some (.fn 47 [] [.ptr pb 0, .ptr tb 0, .ptr xb 0])) (hI : J s false st)
  (hpc : pb < st.ctr) (htc : tb < st.ctr) (hxc : xb < st.ctr) (hpf : ¬ G s pb) (htf : ¬ G s tb) (hxf : ¬ G s xb)
  (hpb : st.box.get pb = some (.cells [pv] 23 true (some 0))) (htb : st.box.get tb = some (.cells t.cells 26 true (some 0))) (hxb : st.box.get xb = some (.cells [x] 22 true (some 0))) (hv : Vw st pv p) (hap : Apart (G s) pv)
  (Φ : Fr → Prop) (hΦ : ∀ v, Φ ⟨JcB [q] [v] fr.t, [], gl⟩) (hgl : fr.gl = gl)
  (hA : ∀ (id' : Nat) (fr' : Fr) (st' : St) (z : S) (K : AE → Fr → St → Prop), Fr.at fr' q = .str z → Φ fr' → (∀ fr2, Fr.at fr2 dst = .str z → Φ fr2 → K .normal fr2 st') → DoK Tryz.prog (some id') [A] fr' st' K)
  (hB : ∀ (id' : Nat) (fr' : Fr) (s : σ) (st' : St) (y : List UInt8) (z : S) (K : AE → Fr → St → Prop), Φ fr' → Fr.at fr' dst = .str z → J s false st' → z.toList = y → z.n ≤ 2000000 → pre (obs s) y →
   (∀ fr2 st2 s2, (step (obs s) y).2 = true → obs s2 = (step (obs s) y).1 → J s2 false st2 → Outs (G s) st' st2 → (∀ i, G s2 i → G s i ∨ st'.ctr ≤ i) → K .normal fr2 st2) →
   (∀ fr2 st2 s2, (step (obs s) y).2 = false → obs s2 = (step (obs s) y).1 → J s2 true st2 → Outs (G s) st' st2 → (∀ i, G s2 i → G s i ∨ st'.ctr ≤ i) → K .ret fr2 st2) → DoK Tryz.prog (some id') [B] fr' st' K)
  (hN : ∀ st2 s2, (Qm step (obs s) (J6 l t p)).2 = false → obs s2 = (Qm step (obs s) (J6 l t p)).1 → J s2 false st2 → Outs (G s) st st2 → (∀ i, G s2 i → G s i ∨ st.ctr + 2 ≤ i) → st2.box.get st.ctr = some (.mark false) → st.ctr + 2 ≤ st2.ctr → DoK Tryz.prog none k { fr with ds := .mark st.ctr :: fr.ds } st2 Q)
  (hR : ∀ st2 s2, (Qm step (obs s) (J6 l t p)).2 = true → obs s2 = (Qm step (obs s) (J6 l t p)).1 → J s2 true st2 → Outs (G s) st st2 → (∀ i, G s2 i → G s i ∨ st.ctr + 2 ≤ i) → st2.box.get st.ctr = some (.mark false) → st.ctr + 2 ≤ st2.ctr → Q .ret { fr with ds := .mark st.ctr :: fr.ds } st2) :
  DoK Tryz.prog none (.rangeFunc g #[q] A B :: k) fr st Q := by
 have hFc := low s false st hI
 have hnf : ∀ i, st.ctr ≤ i → ¬ G s i := fun i hi hf => by have := hFc i hf; omega
 let lp := fun (b : Bool) => Bx.loop (cond b .done .ready) (cond b (some .ret) none) fr.t [q] A B
 let id' := st.ctr + 1
 let F' := fun (s : σ) i => G s i ∨ i = id'
 let I' := fun (s : σ) (b : Bool) (st' : St) => J s b st' ∧ st'.box.get id' = some (lp b) ∧ id' < st'.ctr ∧ ¬ G s id'
 have C' : Cons Tryz.prog gl id' (List UInt8) Jm3 σ τ obs F' step pre I' := by
  refine ⟨fun s b st' h i hi => ?_, fun s b st1 st2 h hc hb => ?_, fun s st1 y args h hval hpre => ?_⟩
  ·rcases hi with hi | rfl
   ·exact low s b st' h.1 i hi
   ·exact h.2.2.1
  ·exact ⟨stable s b st1 st2 h.1 hc fun i hi => hb i (.inl hi), by rw [hb id' (.inr rfl)]; exact h.2.1, Nat.lt_of_lt_of_le h.2.2.1 hc, h.2.2.2⟩
  ·obtain ⟨h1, h2, h5, hidF⟩ := h
   obtain ⟨z, rfl, hzl, hzn⟩ := hval
   have hFi : ∀ i, G s i → i < st1.ctr := low s false st1 h1
   obtain ⟨v, st4, hc, hv1, s4, hv0, hv2, hv3, hv4⟩ := JcC (P := Tryz.prog) (gl := gl) (id := id') (args := [.str z]) (st := st1) (R := fun v st2 => v = (step (obs s) y).2 ∧ ∃ s2, obs s2 = (step (obs s) y).1 ∧ I' s2 (!v) st2 ∧ Outs (F' s) st1 st2 ∧ ∀ i, F' s2 i → F' s i ∨ st1.ctr ≤ i) (pend := none) (t := fr.t) (ps := [q]) (a := A) (b := B) h2 rfl (fun K hK => by
    refine hA id' _ st1 z K (by rw [Jag, if_pos rfl]) (hΦ _) fun fr2 f7 fΦ => ?_
    refine hK fr2 st1 h2 fun K' hn hr => ?_
    have hst3 : ∀ i, i ≠ id' → (st1.put id' (.loop .busy none fr.t [q] A B)).box.get i = st1.box.get i := fun i hi => by rw [Jm, if_neg hi]
    have hI3 : J s false (st1.put id' (.loop .busy none fr.t [q] A B)) := stable s false st1 _ h1 (by rw [JB]; omega) fun i hi => by
     rw [hst3 i (by rintro rfl; exact hidF hi)]
    have hgen : ∀ (b : Bool) (st4 : St) (s4 : σ), J s4 b st4 → Outs (G s) (st1.put id' (.loop .busy none fr.t [q] A B)) st4 → (∀ i, G s4 i → G s i ∨ (st1.put id' (.loop .busy none fr.t [q] A B)).ctr ≤ i) →
      st4.box.get id' = some (.loop .busy none fr.t [q] A B) ∧ I' s4 b (st4.put id' (lp b)) ∧ Outs (F' s) st1 (st4.put id' (lp b)) ∧ ∀ i, F' s4 i → F' s i ∨ st1.ctr ≤ i := fun b st4 s4 hI4 hO4 hS4 => by
     rw [JB] at hS4
     have hid4 : st4.box.get id' = some (.loop .busy none fr.t [q] A B) := by rw [hO4.box id' (by rw [JB]; omega) hidF, Jm, if_pos rfl]
     have hc2 : st1.ctr ≤ st4.ctr := by have := hO4.ctr; rw [JB] at this; exact this
     have hid5 : ¬ G s4 id' := fun h => (hS4 _ h).elim hidF (by omega)
     refine ⟨hid4, ⟨stable _ _ st4 _ hI4 (Nat.le_refl _) (fun i hi => by rw [Jm, if_neg (by rintro rfl; exact hid5 hi)]), by rw [Jm, if_pos rfl], by rw [JB]; omega, hid5⟩, ?_, ?_⟩
     ·refine Outs.put ⟨by omega, fun i hi hf => ?_⟩ (.inr (.inr rfl)) _
      rw [hO4.box i (by rw [JB]; omega) (fun h => hf (.inl h)), hst3 i (fun h => hf (.inr h))]
     ·intro i hi
      rcases hi with hi | hi
      ·rcases hS4 i hi with h | h
       ·exact .inl (.inl h)
       ·exact .inr (by omega)
      ·exact .inl (.inr hi)
    refine hB id' fr2 s _ y z K' fΦ f7 hI3 hzl hzn hpre (fun fr5 st4 s4 hs4 ho4 hI4 hO4 hS4 => ?_) (fun fr5 st4 s4 hs4 ho4 hI4 hO4 hS4 => ?_)
    ·obtain ⟨a1, a2, a3, a4⟩ := hgen false st4 s4 hI4 hO4 hS4
     exact hn fr5 st4 a1 ⟨hs4.symm, s4, ho4, a2, a3, a4⟩
    ·obtain ⟨a1, a2, a3, a4⟩ := hgen true st4 s4 hI4 hO4 hS4
     exact hr fr5 st4 a1 ⟨hs4.symm, s4, ho4, a2, a3, a4⟩)
   refine ⟨s4, st4, by rw [hc, hv1], hv0, by rw [← hv1]; exact hv2, hv3, hv4⟩
 let st1 : St := (st.new (.mark false)).new (.loop .ready none fr.t [q] A B)
 have hg1 : ∀ i, i < st.ctr → st1.box.get i = st.box.get i := fun i hi => by
  show ((st.new _).new _).box.get i = _
  rw [Js, if_neg (by rw [JY]; omega), Js, if_neg (by omega)]
 have hc1 : st1.ctr = st.ctr + 2 := rfl
 have hI1 : I' s false st1 := ⟨stable s false st st1 hI (by omega) fun i hi => hg1 i (hFc i hi), by show ((st.new _).new _).box.get (st.ctr + 1) = _; rw [Js, if_pos (show st.ctr + 1 = (st.new (.mark false)).ctr from rfl)]; rfl, by show st.ctr + 1 < _; omega, hnf _ (by show st.ctr ≤ st.ctr + 1; omega)⟩
 have hO1 : Outs (fun _ => False) st st1 := ⟨by omega, fun i hi _ => hg1 i hi⟩
 have hid' : id' = st.ctr + 1 := rfl
 have hpidc : Apart (fun i => i = id') pv := by
  cases hv with
  | nils => trivial
  | sl => trivial
  | ms id off cap cs e fl fz l hb hl hlt hid hcap => show ¬ id = id'; omega
 obtain ⟨v, st2, hc, s2, ho2, hI2, hO2, hS2⟩ := hp σ τ obs step I' F' id' s st1 pb tb xb pv pre hyok C' hI1 (by omega) (by omega) (by omega) (by rintro (h | h); exact hpf h; omega) (by rintro (h | h); exact htf h; omega) (by rintro (h | h); exact hxf h; omega) (by rw [hg1 pb hpc]; exact hpb) (by rw [hg1 tb htc]; exact htb) (by rw [hg1 xb hxc]; exact hxb)
  (hv.out hO1 (by cases pv <;> first | trivial | exact not_false)) (by cases pv <;> first | trivial | (rintro (h | h); exact hap h; exact hpidc h))
 have hidF2 := hI2.2.2.2
 have hsub2 : ∀ i, G s2 i → G s i ∨ st.ctr + 2 ≤ i := fun i hi => by
  rcases hS2 i (.inl hi) with (h | h) | h
  ·exact .inl h
  ·subst h; exact absurd hi hidF2
  ·exact .inr (by omega)
 have hmk : st2.box.get st.ctr = some (.mark false) := by
  rw [hO2.box st.ctr (by omega) (by rintro (h | h); exact hnf _ (Nat.le_refl _) h; omega)]
  show ((st.new _).new _).box.get st.ctr = _
  rw [Js, if_neg (by rw [JY]; omega), Js, if_pos rfl]
 have hout : ∀ bx, Outs (G s) st (st2.put id' bx) := fun bx => by
  refine Outs.put ⟨by have := hO2.ctr; omega, fun i hi hf => ?_⟩ (.inl (by omega)) _
  rw [hO2.box i (by omega) (by rintro (h | h); exact hf h; omega), hg1 i hi]
 have hbox := hI2.2.1
 have hctr : st.ctr + 2 ≤ st2.ctr := by have := hO2.ctr; omega
 have hIs : ∀ b bx, J s2 b st2 → J s2 b (st2.put id' bx) := fun b bx h => stable _ _ st2 _ h (Nat.le_refl _) fun i hi => by
  rw [Jm, if_neg (by rintro rfl; exact hidF2 hi)]
 refine DoK.range (id := id') (st1 := st1) (fr' := { fr with ds := .mark st.ctr :: fr.ds }) hg (by kernel_rfl) rfl (by rw [hgl]; exact J1 hc) ?_
 refine ⟨_, _, _, _, _, _, hbox, ?_, ?_⟩
 ·cases (Qm step (obs s) (J6 l t p)).2 <;> simp
 ·have hI3 := hI2.1
  cases hst : (Qm step (obs s) (J6 l t p)).2 with
  | false =>
   rw [hst] at hI3
   exact .inl ⟨rfl, hN _ s2 hst ho2 (hIs _ _ hI3) (hout _) hsub2 (by rw [Jm, if_neg (by omega)]; exact hmk) (by rw [JB]; exact hctr)⟩
  | true =>
   rw [hst] at hI3
   exact .inr ⟨rfl, hR _ s2 hst ho2 (hIs _ _ hI3) (hout _) hsub2 (by rw [Jm, if_neg (by omega)]; exact hmk) (by rw [JB]; exact hctr)⟩
end Go.Vm
