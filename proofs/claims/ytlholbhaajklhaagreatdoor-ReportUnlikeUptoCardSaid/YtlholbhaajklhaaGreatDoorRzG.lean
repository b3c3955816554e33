/- The lines of a scenario, one behind the other: by the program. -/
import Derived.Test.YtlholbhaajklhaaGreatDoorRzF
namespace Go.Vm
open Go Go.Proofs Go.Pa
attribute [local simp] OkS QL OkG Qf Qs OkD J3 Qe JL Je Jk vop Jq Jx ev evs toV Jj Fr.dsTo Fr.glTo Fr.toNone Jg Jh Ji J7 QI Jc JF Jt V.undef JX JQ Qg J8 J9 Qa Qh Qi JT Qb Qj Qc JR Qk JE Jw Jy JD JG Ju JS JW JK Ql
theorem z51 : JU Tryz.prog 51 = some 1 := by kernel_rfl
theorem a51 : QM Tryz.prog 51 = some false := by kernel_rfl
theorem JnP : QZ Tryz.prog 51 = some .nilf := by kernel_rfl
def JaA (w t : List UInt8) : List UInt8 := [32, 32] ++ w ++ [32] ++ t
structure OutI where
 out : V
 ts : List S
def OutI.G (ob cb : Nat) (s : OutI) (i : Nat) : Prop := i = ob ∨ i = cb ∨ vid s.out i
structure OutI.J (lo ob cb : Nat) (s : OutI) (b : Bool) (st : St) : Prop where
 go : b = false
 lto : ob < st.ctr
 ltc : cb < st.ctr
 xo : st.box.get ob = some (.cells [s.out] 23 true (some 0))
 xc : st.box.get cb = some (.cells [.fn 25 [] [.ptr ob 0]] 51 true (some 0))
 mine : Mine lo 9 st s.out (s.ts.map .str)
 ao : ¬ vid s.out ob
 ac : ¬ vid s.out cb
 ne : ob ≠ cb
 lol : lo ≤ ob
theorem OutI.low {lo ob cb : Nat} {s : OutI} {b : Bool} {st : St} (h : OutI.J lo ob cb s b st) : ∀ i, s.G ob cb i → i < st.ctr := fun i hi => by
 rcases hi with rfl | rfl | hi
 ·exact h.lto
 ·exact h.ltc
 ·exact (h.mine.vid_lt hi).2
theorem OutI.stable {lo ob cb : Nat} {s : OutI} {b : Bool} {st st' : St} (h : OutI.J lo ob cb s b st) (hc : st.ctr ≤ st'.ctr) (hb : ∀ i, s.G ob cb i → st'.box.get i = st.box.get i) : OutI.J lo ob cb s b st' :=
 ⟨h.go, Nat.lt_of_lt_of_le h.lto hc, Nat.lt_of_lt_of_le h.ltc hc, by rw [hb _ (.inl rfl)]; exact h.xo, by rw [hb _ (.inr (.inl rfl))]; exact h.xc, h.mine.stab hc fun i hi => hb i (.inr (.inr hi)), h.ao, h.ac, h.ne, h.lol⟩
theorem OutI.keep {lo ob cb : Nat} {s : OutI} {b : Bool} {st st' : St} (h : OutI.J lo ob cb s b st) (k : Keep st st') : OutI.J lo ob cb s b st' := OutI.stable h k.ctr fun i hi => k.box i (OutI.low h i hi)
def JdY (w : List UInt8) (s : List (List UInt8)) (y : List UInt8) : List (List UInt8) × Bool := (s ++ [JaA w y], true)
theorem Jez {w : List UInt8} : ∀ (L s : List (List UInt8)), Qm (JdY w) s L = (s ++ L.map (JaA w), false)
 | [], s => by simp [Qm]
 | y :: r, s => by
  have h : (JdY w s y).2 = true := rfl
  rw [Qm, h, Jez r]
  simp [JdY]
theorem JfJ {w : List UInt8} : ∀ {L s : List (List UInt8)}, s.length + L.length ≤ 900 → GoodRun (JdY w) (fun s _ => s.length < 900) s L
 | [], _, _ => trivial
 | y :: r, s, hl => ⟨by simp at hl; omega, fun _ => JfJ (by simp at hl; simp [JdY]; omega)⟩
variable [Memo] [NY]
set_option maxHeartbeats 1000000 in
set_option maxRecDepth 100000 in
theorem JhI (gl : Gl) (st : St) (lo ob cb : Nat) (s : OutI) (hJ : OutI.J lo ob cb s false st) (w t : S) (hw : w.n ≤ 10) (ht : t.n ≤ 2000000) (hlen : s.ts.length < 900) :
  Says Tryz.prog gl 25 [.str w, .str t, .ptr ob 0] st (fun _ st' => ∃ (out' : V) (ln : S), ln.toList = JaA w.toList t.toList ∧ OutI.J lo ob cb ⟨out', s.ts ++ [ln]⟩ false st' ∧ Outs (s.G ob cb) st st' ∧ ∀ i, OutI.G ob cb ⟨out', s.ts ++ [ln]⟩ i → s.G ob cb i ∨ st.ctr ≤ i) := by
 refine QD (NY.no _ rfl rfl rfl _ _) Tryz.func25 rfl (by kernel_rfl) fun R hR K gr gn => ?_
 generalize hfr : JH gl [.str w, .str t, .ptr ob 0] = fr
 have hF : Fs gl [(0, .str w), (1, .str t), (2, .ptr ob 0)] fr := by subst hfr; simp [Fs]
 simp only [Fs] at hF
 clear hfr
 have l0 := Jb (P := Tryz.prog) (off := 0) a23 z23 hJ.xo rfl
 have ad1 : ∀ kk, Jf Tryz.prog kk .add 9 (.str (S.ofList [32, 32])) (.str w) = some (.str ((S.ofList [32, 32]).app w)) := fun kk => QB (by rw [JP]; simp; omega)
 have ad2 : ∀ kk, Jf Tryz.prog kk .add 9 (.str ((S.ofList [32, 32]).app w)) (.str (S.ofList [32])) = some (.str (((S.ofList [32, 32]).app w).app (S.ofList [32]))) := fun kk => QB (by rw [Jbk, JP, JP]; simp; omega)
 have ad3 : ∀ kk, Jf Tryz.prog kk .add 9 (.str (((S.ofList [32, 32]).app w).app (S.ofList [32]))) (.str t) = some (.str ((((S.ofList [32, 32]).app w).app (S.ofList [32])).app t)) := fun kk => QB (by rw [Jbk, Jbk, JP, JP]; simp; omega)
 obtain ⟨ln, hln⟩ : ∃ t', (((S.ofList [32, 32]).app w).app (S.ofList [32])).app t = t' := ⟨_, rfl⟩
 have hlnl : ln.toList = JaA w.toList t.toList := by
  rw [← hln, S.toList_app, S.toList_app, S.toList_app, S.toList_ofList, S.toList_ofList]; rfl
 rw [hln] at ad3
 obtain ⟨u, hu⟩ : ∃ q, q = st.new (.cells [.str ln] 9 true (some 0)) := ⟨_, rfl⟩
 have ku : Keep st u := by rw [hu]; exact (Keep.refl st).new' _
 have cu : u.ctr = st.ctr + 1 := by rw [hu]; rfl
 have gu : u.box.get st.ctr = some (.cells [.str ln] 9 true (some 0)) := by rw [hu, Js, if_pos rfl]
 have hfu : ({ ctr := st.ctr + 1, box := st.box.put st.ctr (.cells [.str ln] 9 true (some 0)) } : St) = u := by rw [hu]; rfl
 clear hu
 have hlto := hJ.lto
 have hltc := hJ.ltc
 have hlol := hJ.lol
 obtain ⟨z, u7, e7, low7, m7, v7, o7⟩ := JkT (hJ.mine.keep ku) ((Jm9 (lo := 0) (by omega) (by omega) gu).src rfl) (by omega) (by simp; omega)
 simp only [List.length_cons, List.length_nil] at e7
 have c7 := low7.ctr
 have x7 : u7.box.get ob = some (.cells [s.out] 23 true (some 0)) := by rw [o7 _ (by omega) hJ.ao, ku.box _ hJ.lto]; exact hJ.xo
 have w7 := JdI z23 (v := z) m7.sim x7
 have hvz : ∀ i, i < st.ctr → ¬ vid s.out i → ¬ vid z i := fun i hi h1 h2 => (v7 i h2).elim h1 fun h3 => by omega
 have hu8 : ∀ i, i ≠ ob → (u7.put ob (.cells [z] 23 true (some 0))).box.get i = u7.box.get i := fun i hi => by rw [Jm, if_neg hi]
 have hJ8 : OutI.J lo ob cb ⟨z, s.ts ++ [ln]⟩ false (u7.put ob (.cells [z] 23 true (some 0))) := ⟨rfl, by rw [JB]; omega, by rw [JB]; omega, by rw [Jm, if_pos rfl],
  by rw [hu8 _ (Ne.symm hJ.ne), o7 _ (by omega) hJ.ac, ku.box _ hltc]; exact hJ.xc,
  by
   have := m7.stab (st' := u7.put ob (.cells [z] 23 true (some 0))) (Nat.le_refl _) fun i hi => hu8 i (by rintro rfl; exact hvz _ hlto hJ.ao hi)
   simpa using this,
  hvz _ hlto hJ.ao, hvz _ hltc hJ.ac, hJ.ne, hlol⟩
 have hO8 : Outs (s.G ob cb) st (u7.put ob (.cells [z] 23 true (some 0))) := ⟨by rw [JB]; omega, fun i hi hG => by
  rw [hu8 i (fun h => hG (.inl h)), o7 i (by omega) (fun h => hG (.inr (.inr h))), ku.box i hi]⟩
 have hS8 : ∀ i, OutI.G ob cb ⟨z, s.ts ++ [ln]⟩ i → s.G ob cb i ∨ st.ctr ≤ i := fun i hi => by
  rcases hi with h | h | h
  ·exact .inl (.inl h)
  ·exact .inl (.inr (.inl h))
  ·rcases v7 i h with q | q
   ·exact .inl (.inr (.inr q))
   ·exact .inr (by omega)
 refine Ka_ (gs := [none, none, none, none, none, none, none, none, none]) fun K1 gK => ?_
 simp (disch := omega) [hF, l0, ad1, ad2, ad3, bs1, hfu, e7, w7, J2, JZ, Tryz.underlying23]
 refine gK _ _ (gn _ _ ?_)
 simp [JM, Tryz.f25, hF]
 exact hR _ _ ⟨z, ln, hlnl, hJ8, hO8, hS8⟩
end Go.Vm
namespace Go.Vm
open Go Go.Proofs Go.Pa
attribute [local simp] OkS QL OkG Qf Qs OkD J3 Qe JL Je Jk vop Jq Jx ev evs toV Jj Fr.dsTo Fr.glTo Fr.toNone Jg Jh Ji J7 QI Jc JF Jt V.undef JX JQ Qg J8 J9 Qa Qh Qi JT Qb Qj Qc JR Qk JE Jw Jy JD JG Ju JS JW JK Ql
def Jcr (s : Sw) : List UInt8 := JaT (classN s) ++ [32] ++ cond s.inc (esc s.why.toList) (Jb9 s.code.toNat)
def JcO (s : Sw) : List (List UInt8) := (QN s.facts s.facts.length 0 []).map (JfR s.facts)
def JdZ (s : Sw) : List (List UInt8) := cond (decide (s.out.n = 0)) [] [JaA [111, 117, 116] (esc s.out.toList)] ++ cond (decide (s.err.n = 0)) [] [JaA [101, 114, 114] (esc s.err.toList)]
def Jdx (s : Sw) : List (List UInt8) := Jcr s :: ((JcO s).map (JaA [105, 102]) ++ (J6 s.facts s.tree []).map (JaA [116, 104, 101, 110]) ++ JdZ s)
def Jow (lo : Nat) (s : Sw) (st' : St) (v : V) : Prop := ∃ (y : V) (ts : List S), v = .tup [y, .int .i64 ((cond (Jdr s) 0 4 : Nat) : Int)] ∧ ts.map S.toList = cond (Jdr s) (Jdx s) [] ∧ Mine lo 9 st' y (ts.map .str)
theorem JbB {s : Sw} (h : Jdr s = true) : MayF s.facts ∧ Jae s.facts s.tree = true ∧ (s.inc = false → 0 ≤ s.code ∧ s.code ≤ 255) ∧ (s.inc = true → s.code = 0) := by
 simp only [Jdr, Bool.and_eq_true, Jn7] at h
 obtain ⟨⟨h1, h2⟩, _, h3⟩ := h
 refine ⟨JcW.1 h1, h2, fun hi => ?_, fun hi => ?_⟩
 ·rw [hi] at h3
  simp only [cond_false, Bool.and_eq_true, decide_eq_true_eq] at h3
  exact h3.2
 ·rw [hi] at h3
  simp only [cond_true, Bool.and_eq_true, decide_eq_true_eq] at h3
  exact h3.2.1
theorem Outs.ext {F : Nat → Prop} {a b c : St} (h : Outs F a b) (k : Keep b c) : Outs F a c := h.trans (.of k)
theorem JoM {n : Nat} (h : n ≤ 255) : (Jb9 n).length ≤ 3 := by
 have hc : ((List.range 256).all fun n => Nat.ble (Jb9 n).length 3) = true := by kernel_rfl
 exact Nat.le_of_ble_eq_true (List.all_eq_true.1 hc n (List.mem_range.2 (by omega)))
theorem Jmg (n : Nat) : (JaT n).length ≤ 10 := by unfold JaT; split <;> simp
theorem JgR {α β : Type} (f : α → β) (l : List α) (i : Nat) (h : i < l.length) : (l.take (i + 1)).map f = (l.take i).map f ++ [f l[i]] := by
 rw [List.take_add_one, List.getElem?_eq_getElem h, Option.toList_some, List.map_append]; rfl
theorem Mine.apart {lo : Nat} {e : TypeId} {st : St} {x : V} {l : List V} (h : Mine lo e st x l) {F : Nat → Prop} (hF : ∀ i, F i → i < lo) : Apart F x := by
 cases h with
 | nils => trivial
 | ms id n cap cs fl hlo hid hb hn hcap => intro h; have := hF _ h; omega
theorem JoN {s : Sw} (hm : MayF s.facts) (hs : ∀ f ∈ s.facts, f.small) (hl : s.facts.length ≤ 60) {z : List UInt8} (hz : z ∈ JcO s) : z.length ≤ 200000 := by
 unfold JcO at hz
 obtain ⟨y, hy, rfl⟩ := List.mem_map.1 hz
 have hlt := (Jem hm _ _ _ y hy).2 hm.pos
 have hpl := Jcs hm s.facts.length 0 y hm.pos hy
 have h1 := Jf9 hm y.1 hlt
 have h2 := Jfu (p := QW s.facts y.1) (by omega) (JcS hm hs _ hlt)
 have h3 := JaF (Jb8 (QW s.facts y.1))
 have h4 := Ji6 (hm.one _ hlt) (hs _ (List.getElem_mem hlt))
 simp only [JfR, List.getElem?_eq_getElem hlt, Joz, hpl, List.length_append, List.length_cons, List.length_nil]
 omega
variable [Memo] [NY] [NZ] [NO]
set_option maxHeartbeats 8000000 in
set_option maxRecDepth 100000 in
theorem Jmh (gl : Gl) {aL : List V} (hh : Hits gl aL) (hw0 : gl.get 0 = some classV) (hw1 : gl.get 1 = some kindsV) (hw2 : gl.get 2 = some wordsV) (st : St) (s : Sw) (hok : s.ok) (hs : s.small) :
  Says Tryz.prog gl 9 [.agg s.cells] st (fun v st' => Jow st.ctr s st' v ∧ Keep st st') := by
 refine Ji9 (NY.no _ rfl rfl rfl _ _) Tryz.func9 rfl (by kernel_rfl) fun R hR K gr gn => ?_
 generalize hfr : JH gl [.agg s.cells] = fr
 have hF : FsD [] gl [(0, .agg s.cells)] fr := by subst hfr; simp [FsD]
 simp only [FsD] at hF
 clear hfr
 have ho := Sw.ones hok
 have kq := Qz st s.cells 28
 have cq := Jdi st s.cells 28
 have hb := Jaa st s.cells 28
 have hS := SwBox.new (st := st) (s := s)
 generalize Jao st s.cells 28 = q at kq hb hS cq
 have l7 := hS.ld.l
 obtain ⟨v, s1, hc, rfl, hk1⟩ := Says.use (Jgc gl hh q s hok hs)
 have hmp := JbB (s := s)
 obtain ⟨M, hM⟩ : ∃ b, Jdr s = b := ⟨_, rfl⟩
 rw [hM] at hc hmp
 have hR' : ∀ v st', (∃ (y : V) (ts : List S), v = .tup [y, .int .i64 ((cond M 0 4 : Nat) : Int)] ∧ ts.map S.toList = cond M (Jdx s) [] ∧ Mine st.ctr 9 st' y (ts.map .str)) → Keep st st' → R v st' := fun v st' h k => hR v st' ⟨by unfold Jow; rw [hM]; exact h, k⟩
 refine Ks_ (Ka_ (gs := [none, none, none]) fun K1 gK => ?_)
 simp (disch := omega) [hF, Ja, ho, hb]
 refine gK _ _ (Ks_ (Ks_ (Ka_ (gs := [none, none, none]) fun K1 gK => ?_)))
 simp (disch := omega) [hF, l7, hc]
 refine gK _ _ ?_
 cases M with
 | true =>
  refine Kf_ (by simp (disch := omega) []) ?_
  obtain ⟨hmf, hmt, hcd, hcd0⟩ := hmp rfl
  have hS1 := hS.keep hk1
  obtain ⟨v, s2, hcw, ⟨wt, rfl, hwt⟩, hk2⟩ := Says.use (JfV gl s1 s.why (by have := hs.why; omega))
  have hwn : wt.n ≤ 2000 := by
   have h1 := congrArg List.length hwt
   have h2 := JaF s.why.toList
   have := hs.why
   rw [S.len] at h1
   rw [S.len] at h2
   omega
  have hS2 := hS1.keep hk2
  have w3 := hS1.ld.l3
  have i2 := hS2.ld.l2
  obtain ⟨IN, hIN⟩ : ∃ b, s.inc = b := ⟨_, rfl⟩
  rw [hIN] at i2 hcd hcd0
  refine Kk_ (Ks_ (Ka_ (gs := [none, none, none, none]) fun K1 gK => ?_))
  simp (disch := omega) [hF, gS3, w3, hcw]
  refine gK _ _ (Ks_ (Ks_ (Ka_ (gs := [none, none, none]) fun K1 gK => ?_)))
  simp (disch := omega) [gS2, i2]
  refine gK _ _ ?_
  refine Km_ (fun fr st' => ∃ (h : S), FsD [] gl [(1, .ptr st.ctr 0), (4, .str h)] fr ∧ h.toList = cond IN (esc s.why.toList) (Jb9 s.code.toNat) ∧ h.n ≤ 2000 ∧ s2 = st') ?_ ?_
  ·as_aux_lemma =>
   intro K1 gm1 go1
   cases IN with
   | true =>
    refine Kf_ (by simp (disch := omega) []) (Kk_ ?_)
    exact gm1 _ _ ⟨wt, by simp [FsD, hF], hwt, hwn, rfl⟩
   | false =>
    refine Kt_ (by simp (disch := omega) []) ?_
    obtain ⟨hc0, hc1⟩ := hcd rfl
    obtain ⟨nc, hnc⟩ := Int.eq_ofNat_of_zero_le hc0
    obtain ⟨v, s3, hci, ⟨it, rfl, hit⟩, hs3⟩ := Says.use (JkS gl s2 nc (by omega))
    rw [show s3 = s2 from hs3, ← hnc] at hci
    clear hs3
    have i4 := hS2.ld.l4
    refine Ka_ (gs := [none, none, none, none]) fun K1 gK => ?_
    simp (disch := omega) [hF, gS4, i4, hci]
    refine gK _ _ ?_
    exact gm1 _ _ ⟨it, by simp [FsD, hF], by rw [hit, hnc]; rfl, by have := JoM (n := nc) (by omega); rw [← S.len, hit]; omega, rfl⟩
  ·as_aux_lemma =>
   clear hF
   rintro fr st' ⟨h, hF, hhl, hhn, hst⟩
   simp only [FsD] at hF
   subst hst
   obtain ⟨v, s3, hcc, rfl, hk3⟩ := Says.use (JoT gl hw0 s2 s hok)
   have l72 := hS2.ld.l
   have hcn := Jmg (classN s)
   have ad1 : ∀ kk, Jf Tryz.prog kk .add 9 (.str (S.ofList (JaT (classN s)))) (.str (S.ofList [32])) = some (.str ((S.ofList (JaT (classN s))).app (S.ofList [32]))) := fun kk => QB (by rw [JP, JP]; simp; omega)
   have ad2 : ∀ kk, Jf Tryz.prog kk .add 9 (.str ((S.ofList (JaT (classN s))).app (S.ofList [32]))) (.str h) = some (.str (((S.ofList (JaT (classN s))).app (S.ofList [32])).app h)) := fun kk => QB (by rw [Jbk, JP, JP]; simp; omega)
   obtain ⟨hd, hhd⟩ : ∃ t, ((S.ofList (JaT (classN s))).app (S.ofList [32])).app h = t := ⟨_, rfl⟩
   have hhdl : hd.toList = Jcr s := by rw [← hhd, S.toList_app, S.toList_app, S.toList_ofList, S.toList_ofList, hhl]; unfold Jcr; rw [hIN]
   rw [hhd] at ad2
   obtain ⟨u1, hu1⟩ : ∃ q, q = s3.new (.cells [.str hd] 9 true (some 0)) := ⟨_, rfl⟩
   have ku1 : Keep s3 u1 := by rw [hu1]; exact (Keep.refl s3).new' _
   have cu1 : u1.ctr = s3.ctr + 1 := by rw [hu1]; rfl
   have gu1 : u1.box.get s3.ctr = some (.cells [.str hd] 9 true (some 0)) := by rw [hu1, Js, if_pos rfl]
   have hfu1 : ({ ctr := s3.ctr + 1, box := s3.box.put s3.ctr (.cells [.str hd] 9 true (some 0)) } : St) = u1 := by rw [hu1]; rfl
   clear hu1
   obtain ⟨ob, hob⟩ : ∃ b, u1.ctr = b := ⟨_, rfl⟩
   obtain ⟨u2, hu2⟩ : ∃ q, q = (u1.new (.cells [.nils] 23 true (some 0))).put ob (.cells [.ms s3.ctr 0 1 1 (some 1)] 23 true (some 0)) := ⟨_, rfl⟩
   have wu2 : Jaq Tryz.prog { ctr := u1.ctr + 1, box := u1.box.put u1.ctr (.cells [.nils] 23 true (some 0)) } 23 (.ptr u1.ctr 0) (.ms s3.ctr 0 1 1 (some 1)) = some u2 := by
    have g : (u1.new (.cells [.nils] 23 true (some 0))).box.get u1.ctr = some (.cells [.nils] 23 true (some 0)) := by rw [Js, if_pos rfl]
    have := JdI z23 (v := .ms s3.ctr 0 1 1 (some 1)) rfl g
    rw [hu2, ← hob]; exact this
   have ku2 : Keep u1 u2 := by rw [hu2]; exact ((Keep.refl u1).new' _).put' (by omega) _
   have cu2 : u2.ctr = ob + 1 := by rw [hu2, JB, JY, hob]
   have go2 : u2.box.get ob = some (.cells [.ms s3.ctr 0 1 1 (some 1)] 23 true (some 0)) := by rw [hu2, Jm, if_pos rfl]
   rw [hob] at wu2
   clear hu2
   obtain ⟨u3, hu3⟩ : ∃ q, q = (u2.new (.cells [.nilf] 51 true (some 0))).put (ob + 1) (.cells [.fn 25 [] [.ptr ob 0]] 51 true (some 0)) := ⟨_, rfl⟩
   have wu3 : Jaq Tryz.prog { ctr := u2.ctr + 1, box := u2.box.put u2.ctr (.cells [.nilf] 51 true (some 0)) } 51 (.ptr u2.ctr 0) (.fn 25 [] [.ptr ob 0]) = some u3 := by
    have g : (u2.new (.cells [.nilf] 51 true (some 0))).box.get u2.ctr = some (.cells [.nilf] 51 true (some 0)) := by rw [Js, if_pos rfl]
    have := JdI z51 (v := .fn 25 [] [.ptr ob 0]) rfl g
    rw [hu3, ← cu2]; exact this
   have ku3 : Keep u2 u3 := by rw [hu3]; exact ((Keep.refl u2).new' _).put' (by omega) _
   have cu3 : u3.ctr = ob + 2 := by rw [hu3, JB, JY, cu2]
   have gc3 : u3.box.get (ob + 1) = some (.cells [.fn 25 [] [.ptr ob 0]] 51 true (some 0)) := by rw [hu3, Jm, if_pos rfl]
   rw [cu2] at wu3
   clear hu3
   have k23 : Keep q u3 := hk1.trans (hk2.trans (hk3.trans (ku1.trans (ku2.trans ku3))))
   have c23 := (hk1.trans (hk2.trans hk3)).ctr
   have hS3 := hS.keep k23
   have hJ0 : OutI.J s3.ctr ob (ob + 1) ⟨.ms s3.ctr 0 1 1 (some 1), [hd]⟩ false u3 := ⟨rfl, by omega, by omega, by rw [ku3.box _ (by omega)]; exact go2, gc3, by
     have g : u3.box.get s3.ctr = some (.cells [.str hd] 9 true (some 0)) := by rw [(ku2.trans ku3).box _ (by omega)]; exact gu1
     exact Jm9 (lo := s3.ctr) (Nat.le_refl _) (by omega) g, (by show ¬ (ob = s3.ctr); omega), (by show ¬ (ob + 1 = s3.ctr); omega), by omega, by omega⟩
   obtain ⟨v, u4, hcf, ⟨yf, tf, rfl, htf, hmf4⟩, hk4⟩ := Says.use (Jpt gl hh hw2 u3 s.fv s.facts hok.fv hok.facts hs.facts (by have := hs.len; omega))
   rw [JcW.2 hmf, cond_true] at htf hcf
   have htfl : tf.length = s.facts.length := by
    have := congrArg List.length htf
    simpa [JfP hmf] using this
   have hlen50 := hs.len
   have f0 := hS3.ld.l0
   have lyf := hmf4.len Tryz.underlying23
   rw [List.length_map] at lyf
   have cnf : V.nilf.cells = [.nilf] := rfl
   refine Ks_ (Ka_ (gs := [none, none, none, none, none, none, none, none]) fun K1 gK => ?_)
   simp (disch := omega) [hF, Jr, l72, hcc, ad1, ad2, bs1, hfu1, hob, Jan, wu2, J2, JZ]
   refine gK _ _ (Ks_ (Ka_ (gs := [none, none, none]) fun K1 gK => ?_))
   simp (disch := omega) [cnf, JnP, wu3, cu2, JZ]
   refine gK _ _ (Ks_ (Ka_ (gs := [none, none, none, none, none, none, none, none]) fun K1 gK => ?_))
   simp (disch := omega) [hF, gS0, f0, hcf]
   refine gK _ _ (Ks_ (Ks_ (Ka_ (gs := [none, none, none]) fun K1 gK => ?_)))
   simp (disch := omega) [lyf]
   refine gK _ _ ?_
   obtain ⟨s0, hs0⟩ : ∃ s0 : OutI, s0 = ⟨.ms s3.ctr 0 1 1 (some 1), [hd]⟩ := ⟨_, rfl⟩
   rw [← hs0] at hJ0
   have hG0 : ∀ i, s0.G ob (ob + 1) i → st.ctr < i ∧ i < u3.ctr := fun i hi => by
    rw [hs0] at hi
    rcases hi with h | h | h
    ·omega
    ·omega
    ·have : i = s3.ctr := h; omega
   have hJ4 := OutI.keep hJ0 hk4
   have hc4 := hk4.ctr
   have vyf : Vw u4 yf tf := hmf4.vw
   have ayf : Apart (s0.G ob (ob + 1)) yf := hmf4.apart fun i hi => (hG0 i hi).2
   have hfl : (JcO s).length = tf.length := by have := congrArg List.length htf; simp at this; unfold JcO; simp; omega
   refine Kl_ (tf.length) (fun i fr st' => ∃ (s' : OutI), FsD [] gl [(1, .ptr st.ctr 0), (5, .ptr ob 0), (6, .ptr (ob + 1) 0), (37, yf), (38, .int .i64 (tf.length : Int)), (39, .int .i64 (i : Int))] fr ∧ i ≤ tf.length ∧ OutI.J s3.ctr ob (ob + 1) s' false st' ∧ Outs (s0.G ob (ob + 1)) u4 st' ∧ (∀ j, s'.G ob (ob + 1) j → s0.G ob (ob + 1) j ∨ u4.ctr ≤ j) ∧ s'.ts.map S.toList = Jcr s :: ((JcO s).take i).map (JaA [105, 102])) (0) (fun fr st' => ∃ (s' : OutI), FsD [] gl [(1, .ptr st.ctr 0), (5, .ptr ob 0), (6, .ptr (ob + 1) 0)] fr ∧ OutI.J s3.ctr ob (ob + 1) s' false st' ∧ Outs (s0.G ob (ob + 1)) u4 st' ∧ (∀ j, s'.G ob (ob + 1) j → s0.G ob (ob + 1) j ∨ u4.ctr ≤ j) ∧ s'.ts.map S.toList = Jcr s :: (JcO s).map (JaA [105, 102])) ?_ ?_ ?_ ?_
   ·exact ⟨s0, by simp [FsD, hF], Nat.zero_le _, hJ4, .refl _ _, fun j hj => .inl hj, by (rw [hs0]; simp [hhdl])⟩
   ·rintro i fr st' ⟨s', _, hi, hJ', hO', hG', hts⟩
    omega
   ·as_aux_lemma =>
    clear hF
    rintro i fr st' ⟨s', hF, hi, hJ', hO', hG', hts⟩ K2 gk2 gx2 go2
    simp only [FsD] at hF
    refine Ks_ (Ka_ (gs := [none]) fun K1 gK => ?_)
    simp (disch := omega) [hF]
    refine gK _ _ (Ks_ ?_)
    by_cases hlt : i < tf.length
    ·
     refine Kt_ (by simp (disch := omega) [hlt]) ?_
     have vy' := vyf.out hO' ayf
     have hxi := vy'.ix Tryz.underlying23 z9 (k := .i64) (a := (i : Int)) (by omega) (by omega)
     have hxd := vy'.ld z9 a9 hlt
     have hlen' : s'.ts.length ≤ 1 + i := by
      have := congrArg List.length hts
      simp at this; omega
     have htfi : tf[i].toList = (JcO s)[i]'(by omega) := by
      have h1 := congrArg (fun l => l[i]?) htf
      simp only [List.getElem?_map, List.getElem?_eq_getElem hlt, Option.map_some] at h1
      have h2 : (JcO s)[i]? = some tf[i].toList := by unfold JcO; rw [List.getElem?_map, ← h1]
      rw [List.getElem?_eq_some_iff] at h2
      exact h2.2.symm
     have htn : tf[i].n ≤ 2000000 := by
      have := JoN hmf hs.facts (by omega) (List.getElem_mem (show i < (JcO s).length by omega))
      rw [← S.len, htfi]; omega
     obtain ⟨v, u5, hcp, out', ln, hlnl, hJ5, hO5, hG5⟩ := Says.use (JhI gl st' s3.ctr ob (ob + 1) s' hJ' (S.ofList [105, 102]) tf[i] (by rw [JP]; simp) htn (by omega))
     have lc := Jb (P := Tryz.prog) (T := 51) (off := 0) a51 z51 hJ'.xc rfl
     refine Kk_ (Ks_ ?_)
     refine Kb_ fun K3 gn3 gx3 go3 => ?_
     refine Ks_ (Ka_ (gs := [none, none, none]) fun K1 gK => ?_)
     simp (disch := omega) [hF, hlt, hxi, hxd]
     refine gK _ _ (Ka_ (gs := [none, none, none]) fun K1 gK => ?_)
     simp (disch := omega) [hF, lc, hcp]
     refine gK _ _ (gn3 _ _ (Ka_ (gs := [none, none]) fun K1 gK => ?_))
     simp (disch := omega) [hF]
     refine gK _ _ ?_
     have hO5c := hO'.ctr
     refine gk2 (i + 1) _ _ (by omega) ⟨⟨out', s'.ts ++ [ln]⟩, by simp [FsD, hF], by omega, hJ5, hO'.trans' hO5 hG', fun j hj => (hG5 j hj).elim (fun h => hG' j h) (fun h => .inr (by omega)), by (rw [List.map_append, hts, List.map_cons, List.map_nil, hlnl, S.toList_ofList, htfi, JgR _ _ _ (show i < (JcO s).length by omega)]; rfl)⟩
    ·
     refine Kf_ (by simp (disch := omega) [hlt]) ?_
     exact Kx_ (gx2 _ _ ⟨s', by simp [FsD, hF, hlt], hJ', hO', hG', by (rw [hts, List.take_of_length_le (by omega)])⟩)
   ·as_aux_lemma =>
    clear hF
    rintro fr st' ⟨s', hF, hJ', hO', hG', hts⟩
    simp only [FsD] at hF
    obtain ⟨v, u6, hcl, rfl, hs6⟩ := Says.use (Jgh gl st' s.fv .nils s.tree hok.fv.cells1 hok.fv.one hok.tree rfl rfl)
    have k6 : Keep st' u6 := by rw [hs6]; exact (((Keep.refl st').new' _).new' _).new' _
    have c6 : u6.ctr = st'.ctr + 3 := by rw [hs6]; rfl
    have gE0 : u6.box.get st'.ctr = some (.cells [s.fv] 22 true (some 0)) := by rw [hs6, Js, if_neg (by rw [JY, JY]; omega), Js, if_neg (by rw [JY]; omega), Js, if_pos rfl]
    have gE1 : u6.box.get (st'.ctr + 1) = some (.cells s.tree.cells 26 true (some 0)) := by rw [hs6, Js, if_neg (by rw [JY, JY]; omega), Js, if_pos (show st'.ctr + 1 = (st'.new (.cells [s.fv] 22 true (some 0))).ctr from rfl)]
    have gE2 : u6.box.get (st'.ctr + 2) = some (.cells [.nils] 23 true (some 0)) := by rw [hs6, Js, if_pos (show st'.ctr + 2 = ((st'.new (.cells [s.fv] 22 true (some 0))).new (.cells s.tree.cells 26 true (some 0))).ctr from rfl)]
    clear hs6
    have hS4 := hS3.keep hk4
    have hSk : ∀ {u : St}, Outs (s0.G ob (ob + 1)) u4 u → SwBox u st.ctr s := fun h => ⟨by rw [h.box _ hS4.lt (fun hg => by have := (hG0 _ hg).1; omega)]; exact hS4.b, Nat.lt_of_lt_of_le hS4.lt h.ctr⟩
    have e0 := (hSk hO').ld.l0
    have e1 := (hSk hO').ld.l1
    have hc4' := hO'.ctr
    refine Ks_ (Ks_ (Ka_ (gs := [none, none, none, none, none]) fun K1 gK => ?_))
    simp (disch := omega) [hF, gS0, gS1, e0, e1, hcl]
    refine gK _ _ ?_
    refine Kb_ fun K4 gn4 gx4 go4 => ?_
    refine Kn_ (fun fr => FsD [] gl [(1, .ptr st.ctr 0), (5, .ptr ob 0), (6, .ptr (ob + 1) 0), (51, .fn 47 [] [.ptr (st'.ctr + 2) 0, .ptr (st'.ctr + 1) 0, .ptr st'.ctr 0])] fr) (by simp [FsD, hF]) ?_
    clear hF
    rintro fr hF
    simp only [FsD] at hF
    have hProd := Jm7 gl hh hw1 s.fv s.facts hok.fv hok.facts hs.facts (by omega) hmf hok.tree hs.tree (by have := hs.nodes; omega) hmt [] (by have := hs.nodes; simp; omega) (fun s hs => by cases hs)
    have hlow := fun (s : OutI) (b : Bool) (st' : St) (h : OutI.J s3.ctr ob (ob + 1) s b st') => OutI.low h
    have hstab := fun (s : OutI) (b : Bool) (st' st2 : St) (h : OutI.J s3.ctr ob (ob + 1) s b st') => OutI.stable (st' := st2) h
    have hJ6 := OutI.keep hJ' k6
    have hGl : ∀ i, s'.G ob (ob + 1) i → i < st'.ctr := OutI.low hJ'
    have hlen1 : s'.ts.length ≤ 60 := by
     have := congrArg List.length hts
     simp only [List.length_map, List.length_cons] at this
     omega
    have hlenL := JdJ s.facts s.tree []
    have hnod := hs.nodes
    refine Jo5 hProd (pre := fun s _ => s.length < 900) (obs := fun s => s.ts.map S.toList) (step := JdY [116, 104, 101, 110]) (G := OutI.G ob (ob + 1)) hlow hstab (s := s') (JfJ (by rw [List.length_map]; omega)) (dst := 11) (pb := st'.ctr + 2) (tb := st'.ctr + 1) (xb := st'.ctr) (by simp [hF]) hJ6 (by omega) (by omega) (by omega) (fun h => by have := hGl _ h; omega) (fun h => by have := hGl _ h; omega) (fun h => by have := hGl _ h; omega) gE2 gE1 gE0 .nils trivial
     (fun fr' => fr'.at 1 = .ptr st.ctr 0 ∧ fr'.at 5 = .ptr ob 0 ∧ fr'.at 6 = .ptr (ob + 1) 0 ∧ fr'.ds = [] ∧ fr'.gl = gl) (fun v => ⟨by rw [Jag, if_neg (by decide)]; exact hF.1, by rw [Jag, if_neg (by decide)]; exact hF.2.1, by rw [Jag, if_neg (by decide)]; exact hF.2.2.1, rfl, rfl⟩) (by simp [hF]) ?_ ?_ ?_ ?_
    ·as_aux_lemma =>
     intro id' fr' st' z K h52 hΦ hkk
     obtain ⟨h1, h5, h6, hd', hg⟩ := hΦ
     have hF : fr'.at 52 = .str z ∧ fr'.at 1 = .ptr st.ctr 0 ∧ fr'.at 5 = .ptr ob 0 ∧ fr'.at 6 = .ptr (ob + 1) 0 ∧ fr'.ds = [] ∧ fr'.gl = gl := ⟨h52, h1, h5, h6, hd', hg⟩
     refine Ka_ (gs := [none]) fun K1 gK => ?_
     simp (disch := omega) [hF]
     refine gK _ _ ?_
     exact hkk _ (by simp []) ⟨by simp [hF], by simp [hF], by simp [hF], by simp [hF], by simp [hF]⟩
    ·as_aux_lemma =>
     intro id' fr' s5 st5 y z K hΦ h11 hJ5 hzl hzn hpre hkt hkf
     obtain ⟨h1, h5, h6, hd', hg⟩ := hΦ
     have hF : fr'.at 11 = .str z ∧ fr'.at 1 = .ptr st.ctr 0 ∧ fr'.at 5 = .ptr ob 0 ∧ fr'.at 6 = .ptr (ob + 1) 0 ∧ fr'.ds = [] ∧ fr'.gl = gl := ⟨h11, h1, h5, h6, hd', hg⟩
     simp only [List.length_map] at hpre
     obtain ⟨v, u7, hcp7, out', ln, hlnl, hJ7, hO7, hG7⟩ := Says.use (JhI gl st5 s3.ctr ob (ob + 1) s5 hJ5 (S.ofList [116, 104, 101, 110]) z (by rw [JP]; simp) hzn hpre)
     have lc7 := Jb (P := Tryz.prog) (T := 51) (off := 0) a51 z51 hJ5.xc rfl
     refine Kb_ fun K5 gn5 gx5 go5 => ?_
     refine Ka_ (gs := [none, none, none]) fun K1 gK => ?_
     simp (disch := omega) [hF, lc7, hcp7]
     refine gK _ _ (gn5 _ _ ?_)
     exact hkt _ _ ⟨out', s5.ts ++ [ln]⟩ rfl (by simp [JdY, hlnl, hzl, S.toList_ofList]) hJ7 hO7 hG7
    ·as_aux_lemma =>
     intro st2 s2' hr2 ho2 hJ2 hO2 hG2 hmk2 hc2
     obtain ⟨m, hm⟩ : ∃ m, u6.ctr = m := ⟨_, rfl⟩
     rw [hm] at hmk2
     obtain ⟨f1, f5, f6, f51, fds, fgl⟩ := hF
     generalize hfr6 : ({ fr with ds := .mark u6.ctr :: fr.ds } : Fr) = fr6
     have hF : fr6.at 1 = .ptr st.ctr 0 ∧ fr6.at 5 = .ptr ob 0 ∧ fr6.at 6 = .ptr (ob + 1) 0 ∧ fr6.ds = [.mark m] ∧ fr6.gl = gl := by
      subst hfr6
      exact ⟨f1, f5, f6, by show Df.mark u6.ctr :: fr.ds = _; rw [fds, hm], fgl⟩
     clear hfr6
     have hO26 : Outs (s0.G ob (ob + 1)) u4 st2 := (hO'.ext k6).trans' hO2 hG'
     have hG26 : ∀ j, s2'.G ob (ob + 1) j → s0.G ob (ob + 1) j ∨ u4.ctr ≤ j := fun j hj => (hG2 j hj).elim (hG' j) fun h => .inr (by omega)
     have hm2 : ¬ s2'.G ob (ob + 1) m := fun h => (hG2 _ h).elim (fun h2 => by have := hGl _ h2; omega) fun h2 => by omega
     have hts2 : s2'.ts.map S.toList = Jcr s :: ((JcO s).map (JaA [105, 102]) ++ (J6 s.facts s.tree []).map (JaA [116, 104, 101, 110])) := by
      have e : s2'.ts.map S.toList = (Qm (JdY [116, 104, 101, 110]) (s'.ts.map S.toList) (J6 s.facts s.tree [])).1 := ho2
      rw [e, Jez, hts]; rfl
     have hlen2 : s2'.ts.length ≤ 300 := by
      have := congrArg List.length hts2
      simp only [List.length_map, List.length_cons, List.length_append] at this
      omega
     have o5 := (hSk hO26).ld.l5
     have hse := Q4 s.out
     obtain ⟨O0, hO0⟩ : ∃ b, decide (s.out.n = 0) = b := ⟨_, rfl⟩
     rw [hO0] at hse
     refine gn4 _ _ (Ks_ (Ks_ (Ka_ (gs := [none, none, none]) fun K1 gK => ?_)))
     simp (disch := omega) [hF, gS5, o5, hse]
     refine gK _ _ ?_
     refine Km_ (fun fr st' => ∃ (s' : OutI), FsD [.mark m] gl [(1, .ptr st.ctr 0), (5, .ptr ob 0), (6, .ptr (ob + 1) 0)] fr ∧ OutI.J s3.ctr ob (ob + 1) s' false st' ∧ Outs (s0.G ob (ob + 1)) u4 st' ∧ (∀ j, s'.G ob (ob + 1) j → s0.G ob (ob + 1) j ∨ u4.ctr ≤ j) ∧ s'.ts.map S.toList = s2'.ts.map S.toList ++ cond O0 [] [JaA [111, 117, 116] (esc s.out.toList)] ∧ st'.box.get m = some (.mark false) ∧ ¬ s'.G ob (ob + 1) m ∧ m < st'.ctr) ?_ ?_
     ·as_aux_lemma =>
      intro K6 gm6 go6
      cases O0 with
      | true =>
       refine Kf_ (by simp (disch := omega) []) (Kk_ ?_)
       exact gm6 _ _ ⟨s2', by simp [FsD, hF], hJ2, hO26, hG26, by simp, hmk2, hm2, by omega⟩
      | false =>
       refine Kt_ (by simp (disch := omega) []) ?_
       obtain ⟨qt, hqt⟩ : ∃ q : St, ({ ctr := st2.ctr + 5, box := st2.box } : St) = q := ⟨_, rfl⟩
       have kt : Keep st2 qt := by rw [← hqt]; exact Jcg _ _
       have hon := hs.out
       obtain ⟨v, q4, hce, ⟨xt, rfl, hxt⟩, k4⟩ := Says.use (JfV gl qt s.out (by omega))
       have k24 := kt.trans k4
       have hxn : xt.n ≤ 6000 := by
        have h1 := congrArg List.length hxt
        have h2 := JaF s.out.toList
        rw [S.len] at h1
        rw [S.len] at h2
        omega
       have ot := (hSk (hO26.ext kt)).ld.l5
       have o4 := (hSk (hO26.ext k24)).ld.l5
       have hJ4' := OutI.keep hJ2 k24
       have lct := Jb (P := Tryz.prog) (T := 51) (off := 0) a51 z51 (OutI.keep hJ2 kt).xc rfl
       have lc4 := Jb (P := Tryz.prog) (T := 51) (off := 0) a51 z51 hJ4'.xc rfl
       obtain ⟨v, u8, hcp8, out', ln, hlnl, hJ8, hO8, hG8⟩ := Says.use (JhI gl q4 s3.ctr ob (ob + 1) s2' hJ4' (S.ofList [111, 117, 116]) xt (by rw [JP]; simp) (by omega) (by omega))
       have vqf : veq 1000000000 (.fn 25 [] [.ptr ob 0]) (.fn 25 [] [.ptr ob 0]) = true := QA _ (Nat.le_of_ble_eq_true rfl)
       have c24 := k24.ctr
       have c8 := hO8.ctr
       refine Kj_ (b := [0, 0, 2, 6, 15]) (rs := [(1, 3), (0, 1), (4, 1)]) fun K1 gK => ?_
       simp (disch := omega) [hF, gS5, hqt, hce, ot, lct, lc4, vqf, hcp8]
       refine gK _ _ ?_
       exact gm6 _ _ ⟨⟨out', s2'.ts ++ [ln]⟩, by simp [FsD, hF], hJ8, (hO26.ext k24).trans' hO8 hG26, fun j hj => (hG8 j hj).elim (hG26 j) (fun h => .inr (by have := hO26.ctr; omega)), by (rw [List.map_append, List.map_cons, List.map_nil, hlnl, S.toList_ofList, hxt]; rfl), by (rw [hO8.box _ (by omega) hm2, k24.box _ (by omega)]; exact hmk2), fun h => (hG8 _ h).elim hm2 (fun h2 => by omega), by omega⟩
     ·as_aux_lemma =>
      clear hF
      rintro fr st' ⟨s', hF, hJ3, hO3, hG3, hts3, hmk3, hmG3, hmc3⟩
      simp only [FsD] at hF
      have hlen3 : s'.ts.length ≤ 301 := by
       have := congrArg List.length hts3
       rw [List.length_map, List.length_append, List.length_map] at this
       have : (cond O0 [] [JaA [111, 117, 116] (esc s.out.toList)]).length ≤ 1 := by cases O0 <;> simp
       omega
      have o6 := (hSk hO3).ld.l6
      have hsx := Q4 s.err
      obtain ⟨X0, hX0⟩ : ∃ b, decide (s.err.n = 0) = b := ⟨_, rfl⟩
      rw [hX0] at hsx
      refine Ks_ (Ks_ (Ka_ (gs := [none, none, none]) fun K1 gK => ?_))
      simp (disch := omega) [hF, gS6, o6, hsx]
      refine gK _ _ ?_
      obtain ⟨st3, hst3⟩ : ∃ u, u = st' := ⟨_, rfl⟩
      rw [← hst3] at hJ3 hO3 hmk3 hmc3
      rw [← hst3]
      obtain ⟨s3', hs3'⟩ : ∃ u, u = s' := ⟨_, rfl⟩
      rw [← hs3'] at hJ3 hG3 hts3 hmG3 hlen3
      refine Km_ (fun fr st' => ∃ (s' : OutI), FsD [.mark m] gl [(1, .ptr st.ctr 0), (5, .ptr ob 0), (6, .ptr (ob + 1) 0)] fr ∧ OutI.J s3.ctr ob (ob + 1) s' false st' ∧ Outs (s0.G ob (ob + 1)) u4 st' ∧ (∀ j, s'.G ob (ob + 1) j → s0.G ob (ob + 1) j ∨ u4.ctr ≤ j) ∧ s'.ts.map S.toList = s3'.ts.map S.toList ++ cond X0 [] [JaA [101, 114, 114] (esc s.err.toList)] ∧ st'.box.get m = some (.mark false) ∧ ¬ s'.G ob (ob + 1) m ∧ m < st'.ctr) ?_ ?_
      ·as_aux_lemma =>
       intro K7 gm7 go7
       cases X0 with
       | true =>
        refine Kf_ (by simp (disch := omega) []) (Kk_ ?_)
        exact gm7 _ _ ⟨s3', by simp [FsD, hF], hJ3, hO3, hG3, by simp, hmk3, hmG3, hmc3⟩
       | false =>
        refine Kt_ (by simp (disch := omega) []) ?_
        obtain ⟨qt, hqt⟩ : ∃ q : St, ({ ctr := st3.ctr + 5, box := st3.box } : St) = q := ⟨_, rfl⟩
        have kt : Keep st3 qt := by rw [← hqt]; exact Jcg _ _
        have hen := hs.err
        obtain ⟨v, q4, hce, ⟨xt, rfl, hxt⟩, k4⟩ := Says.use (JfV gl qt s.err (by omega))
        have k24 := kt.trans k4
        have hxn : xt.n ≤ 6000 := by
         have h1 := congrArg List.length hxt
         have h2 := JaF s.err.toList
         rw [S.len] at h1
         rw [S.len] at h2
         omega
        have ot := (hSk (hO3.ext kt)).ld.l6
        have o4 := (hSk (hO3.ext k24)).ld.l6
        have hJ4' := OutI.keep hJ3 k24
        have lct := Jb (P := Tryz.prog) (T := 51) (off := 0) a51 z51 (OutI.keep hJ3 kt).xc rfl
        have lc4 := Jb (P := Tryz.prog) (T := 51) (off := 0) a51 z51 hJ4'.xc rfl
        obtain ⟨v, u8, hcp8, out', ln, hlnl, hJ8, hO8, hG8⟩ := Says.use (JhI gl q4 s3.ctr ob (ob + 1) s3' hJ4' (S.ofList [101, 114, 114]) xt (by rw [JP]; simp) (by omega) (by omega))
        have vqf : veq 1000000000 (.fn 25 [] [.ptr ob 0]) (.fn 25 [] [.ptr ob 0]) = true := QA _ (Nat.le_of_ble_eq_true rfl)
        have c24 := k24.ctr
        have c8 := hO8.ctr
        refine Kj_ (b := [0, 0, 2, 6, 15]) (rs := [(1, 3), (0, 1), (4, 1)]) fun K1 gK => ?_
        simp (disch := omega) [hF, gS6, hqt, hce, ot, lct, lc4, vqf, hcp8]
        refine gK _ _ ?_
        exact gm7 _ _ ⟨⟨out', s3'.ts ++ [ln]⟩, by simp [FsD, hF], hJ8, (hO3.ext k24).trans' hO8 hG3, fun j hj => (hG8 j hj).elim (hG3 j) (fun h => .inr (by have := hO3.ctr; omega)), by (rw [List.map_append, List.map_cons, List.map_nil, hlnl, S.toList_ofList, hxt]; rfl), by (rw [hO8.box _ (by omega) hmG3, k24.box _ (by omega)]; exact hmk3), fun h => (hG8 _ h).elim hmG3 (fun h2 => by omega), by omega⟩
      ·as_aux_lemma =>
       clear hF
       rintro fr st' ⟨s', hF, hJ9, hO9, hG9, hts9, hmk9, hmG9, hmc9⟩
       simp only [FsD] at hF
       have lo9 := Jb (P := Tryz.prog) (T := 23) (off := 0) a23 z23 hJ9.xo rfl
       have hc9 := hO9.ctr
       refine Ks_ (Ka_ (gs := [none, none, none]) fun K1 gK => ?_)
       simp (disch := omega) [hF, lo9]
       refine gK _ _ (Kq_ (gr _ _ ?_))
       simp [JdA, Tryz.f9, hF, JC, hmk9]
       refine hR' _ _ ⟨s'.out, s'.ts, rfl, ?_, ?_⟩ ?_
       ·rw [hts9, hts3, hts2]
        simp only [cond_true, Jdx, JdZ, hO0, hX0, List.cons_append, List.append_assoc]
       ·refine (hJ9.mine.low (by omega)).stab (Nat.le_refl _) fun i hi => ?_
        rw [Jm, if_neg]
        rintro rfl
        exact hmG9 (.inr (.inr hi))
       ·have kst : Keep st u4 := kq.trans (k23.trans hk4)
        have := kst.ctr
        refine ⟨by rw [JB]; omega, fun i hi => ?_⟩
        rw [Jm, if_neg (by omega), hO9.box i (by omega) (fun hg => by have := (hG0 _ hg).1; omega)]
        exact kst.box i hi
    ·as_aux_lemma =>
     intro st2 s2' hr2 ho2 hJ2 hO2 hG2 hmk2 hc2
     exact absurd (show (Qm (JdY [116, 104, 101, 110]) (s'.ts.map S.toList) (J6 s.facts s.tree [])).2 = true from hr2) (by rw [Jez]; simp)
 | false =>
  refine Kt_ (by simp (disch := omega) []) (Ks_ (Ka_ (gs := [none, none]) fun K1 gK => ?_))
  simp (disch := omega) []
  refine gK _ _ (Kq_ (gr _ _ ?_))
  simp [JdA, Tryz.f9, hF, JC]
  refine hR' _ _ ⟨.nils, [], rfl, rfl, .nils⟩ (kq.trans hk1)
end Go.Vm
