/- SpellBack: the law, by the program. -/
import Derived.Test.YtphinjijaglokaaGreatDoorSzP
namespace Go.Vm
open Go Go.Proofs Go.Pa
attribute [local simp] OkP Qr OkS Qf OkG Qa Qe OkD J3 Qd JA Je Jj vop Jk Jr ev evs toV Ji Fr.dsTo Fr.glTo Fr.toNone Jf Jg Jh J9 Qu Jc Jy Jn V.undef JP JI JY JS JZ J7 J0 J1 JD J2 JV JT JQ J8 Jq Jo Jt Jw Jx Jp JL JM JC Qg
theorem Ji6 : ∀ t : Nt, t.small → (shw t).length + 2000 ≤ 30000 * t.nodes := Nt.ind fun kind text names kids ih hs => by
 cases hs with
 | mk _ _ _ _ ht hn hnt hk hks =>
  have cl : ∀ z : S, z.n ≤ 20000 → (Ja8 z).length ≤ z.n + 7 := fun z hz => by
   have := Jbu (n := z.n) (by omega)
   rw [Ja8]; simp [S.len]; omega
  have hp := (Nt.mk kind text names kids).nodes_pos
  have := cl text ht
  by_cases h1 : kind = 1 ∨ kind = 3
  ·rw [Jah h1]
   simp only [List.length_cons]; omega
  ·have h2 : shw (.mk kind text names kids) = 100 :: (QY names.length ++ 58 :: QZ kids names) := by
    simp only [shw]; rw [decide_eq_false (fun h => h1 (.inl h)), decide_eq_false (fun h => h1 (.inr h))]; rfl
   have key : ∀ (ks : List Nt) (ns : List S), (∀ t ∈ ks, (shw t).length + 2000 ≤ 30000 * t.nodes) → (∀ s ∈ ns, s.n ≤ 1000) → (QZ ks ns).length ≤ 30000 * QU ks := fun ks => by
    induction ks with
    | nil => intro ns _ _; simp [QZ]
    | cons t ks ihk =>
     intro ns h h'
     cases ns with
     | nil => simp [QZ]
     | cons s ns =>
      have a1 := h t (by simp)
      have a2 := cl s (by have := h' s (by simp); omega)
      have a3 := h' s (by simp)
      have a4 := ihk ns (fun u hu => h u (by simp [hu])) (fun u hu => h' u (by simp [hu]))
      simp only [QZ, QU, List.length_append]; omega
   have h5 := key kids names (fun t ht => ih t ht (hks t ht)) hnt
   have h6 := Jbu (n := names.length) (by omega)
   rw [h2]
   simp only [List.length_cons, List.length_append, Nt.nodes]; omega
theorem Jdm : ∀ t : Nt, t.small → QQ t = true → t.okN := Nt.ind fun kind text names kids ih hs hw => by
 cases hs with
 | mk _ _ _ _ ht hn hnt hk hks =>
  by_cases h1 : kind = 1 ∨ kind = 3
  ·obtain ⟨rfl, rfl, _, _⟩ := JcE hw h1
   exact .leaf kind text h1 (by omega)
  ·obtain ⟨rfl, h3, hl, _, hwk⟩ := Jdf hw (fun h => h1 (.inl h)) (fun h => h1 (.inr h))
   exact .dir text names kids h3 hl (by omega) (fun s hs => by have := hnt s hs; omega) fun t ht => ih t ht (hks t ht) (hwk t ht)
theorem JgH : ∀ t t' : Nt, Jaz t t' = true → t'.fit → t.fit := Nt.ind fun kind text names kids ih t' h hf => by
 cases hf with
 | mk kind' text' names' kids' ht hn hk hs hks =>
  simp only [Jaz, Bool.and_eq_true, decide_eq_true_eq] at h
  obtain ⟨_, h2, h3, h4⟩ := h
  rw [S.same_eq, beq_iff_eq] at h2
  obtain ⟨h5, h6⟩ := JfQ h3
  rw [Jdi, Jev] at h4
  refine .mk _ _ _ _ (by rw [Jew h2]; exact ht) (by omega) (by omega) (fun s hs' => ?_) fun t ht' => ?_
  ·obtain ⟨i, hi, rfl⟩ := List.getElem_of_mem hs'
   have := h6 i
   rw [Jbs hi, Jbs (show i < names'.length by omega)] at this
   rw [Jew this]; exact hs _ (List.getElem_mem _)
  ·obtain ⟨i, hi, rfl⟩ := List.getElem_of_mem ht'
   exact ih _ ht' _ (h4.2 i hi (by omega)) (hks _ (List.getElem_mem _))
theorem JgI {s : S} (hs : s.n ≤ 100000) : ∀ t : Nt, t.okN → s.toList = shw t → t.fit := fun t ho h => JjK t (by have := Jj4 t ho; rw [← h, S.len] at this; omega)
variable [Memo] [NY] [NZ] [NO] [NA]
set_option maxHeartbeats 8000000 in
set_option maxRecDepth 100000 in
omit [NO] in
theorem law4 (gl : Gl) (hg : gl.get 1 = some powV) (hg2 : gl.get 2 = some errS) (hg3 : gl.get 3 = some errR) {aL : List V} (hh : Hits gl aL) (st : St) (cs : List V) (t : Nt) (hr : NR st cs t) (hm : t.mass ≤ 1000000000) (s : S) (hs : s.n ≤ 1000000000) :
  Says Tryz.prog gl 4 [.agg cs, .str s] st (fun v _st' => v = .bool true) := by
 refine Qm (NY.no _ rfl rfl rfl _ _) Tryz.func4 rfl (by kernel_rfl) fun R hR K gr gn => ?_
 generalize hfr : JJ gl [.agg cs, .str s] = fr
 have hF : Fs gl [(0, .agg cs), (1, .str s)] fr := by subst hfr; simp [Fs]
 simp only [Fs] at hF
 clear hfr
 have ho := hr.ones
 have kq := Qk st cs 25
 have hb := QE st cs 25
 have hT := NB.new (st := st) (cs := cs)
 generalize Jan st cs 25 = q at kq hb hT
 have hr := hr.keep kq
 have hcl := hr.len
 have l0 := Jac hT.b hcl
 obtain ⟨v, s1, hc1, ⟨r, rfl, hr1, hr2, hr3⟩, hk1⟩ := Says.use (JkZ gl t hm q cs hr)
 obtain ⟨v, sa, hca, rfl, hsa⟩ := Says.use (JjC gl s1)
 obtain rfl : sa = s1 := hsa
 obtain ⟨G, hG⟩ : ∃ b, decide (500 < r) = b := ⟨_, rfl⟩
 obtain ⟨H, hH⟩ : ∃ b, decide (3000 < s.n) = b := ⟨_, rfl⟩
 have eG : ∀ kk, Js Tryz.prog kk .gtr 3 (.int .i64 r) (.int .i64 500) = some (.bool G) := fun kk => by rw [← hG]; exact Jcf
 have eH : ∀ kk, Js Tryz.prog kk .gtr 3 (.int .i64 (s.n : Int)) (.int .i64 3000) = some (.bool H) := fun kk => by rw [← hH]; exact JQ
 refine Ks_ (Ka_ (gs := [none, none]) fun K1 gK => ?_)
 simp (disch := omega) [hF, Ja, ho, hb]
 refine gK _ _ (Ks_ (Ks_ ?_))
 refine Km_ (fun fr st' => Fs gl [(1, .str s), (2, .ptr st.ctr 0), (24, .bool (G || H))] fr ∧ sa = st') ?_ ?_
 ·as_aux_lemma =>
  intro K1 gm1 go1
  refine Ka_ (gs := [none, none, none, none, some (some 16, false), some (some 16, false), some (some 16, false), none, none, some (some 21, false), some (some 21, false), none]) fun K1 gK => ?_
  refine OkG.cutK 8 (fun fr st' => Fs gl [(1, .str s), (2, .ptr st.ctr 0), (20, .bool (G || H))] fr ∧ sa = st') (by kernel_rfl) ?_ ?_
  ·as_aux_lemma =>
   intro Kc gKc
   simp only [List.take]
   cases G with
   | true =>
    simp (disch := omega) [hF, l0, hc1, eG]
    exact gKc _ _ ⟨by simp [Fs, hF], rfl⟩
   | false =>
    simp (disch := omega) [hF, l0, hc1, eG, eH, Jb]
    exact gKc _ _ ⟨by simp [Fs, hF], rfl⟩
  ·as_aux_lemma =>
   clear hF
   rintro fr st' ⟨hF, rfl⟩
   simp only [Fs] at hF
   simp only [List.drop]
   obtain ⟨X, hX⟩ : ∃ b, (G || H) = b := ⟨_, rfl⟩
   rw [hX] at hF
   cases X with
   | true =>
    simp (disch := omega) [hF]
    refine gK _ _ ?_
    exact gm1 _ _ ⟨by simp [Fs, hF, hX],  rfl⟩
   | false =>
    simp (disch := omega) [hF, hca]
    refine gK _ _ ?_
    exact gm1 _ _ ⟨by simp [Fs, hF, hX],  rfl⟩
 ·as_aux_lemma =>
  clear hF
  rintro fr st' ⟨hF, rfl⟩
  simp only [Fs] at hF
  obtain ⟨X, hX⟩ : ∃ b, (G || H) = b := ⟨_, rfl⟩
  rw [hX] at hF
  cases X with
  | true =>
   refine Kt_ (by simp (disch := omega) [hF]) (Ks_ (Ka_ (gs := [none, none]) fun K1 gK => ?_))
   simp (disch := omega) [hF, hca]
   refine gK _ _ (Kq_ (gr _ _ ?_))
   simp [JR, Tryz.f4, hF]
   refine hR _ _ ?_
   rfl
  | false =>
   refine Kf_ (by simp (disch := omega) [hF]) ?_
   have hz : r ≤ 500 ∧ s.n ≤ 3000 := by
    rw [← hG, ← hH] at hX
    simp only [Bool.or_eq_false_iff, decide_eq_false_iff_not] at hX
    omega
   obtain ⟨hsm, hnd⟩ := hr3 hz.1
   have hft := hsm.fit
   have hla := hT.keep hk1
   have l1 := Jac hla.b hcl
   have hlen := Ji6 t hsm
   obtain ⟨v, s2, hc2, ⟨z, rfl, hz2⟩, hk2⟩ := Says.use (Jiq gl hg hh sa cs t (hr.keep hk1) hft (by omega))
   have l2 := Jac (hla.keep hk2).b hcl
   obtain ⟨v, s3, hc3, rfl, hk3⟩ := Says.use (JcP gl hh t hft s2 cs ((hr.keep hk1).keep hk2))
   obtain ⟨WN, hWN⟩ : ∃ b, QQ t = b := ⟨_, rfl⟩
   rw [hWN] at hc2 hc3 hz2
   have eB : ∀ (b : Bool) kk, Js Tryz.prog kk .neq 4 (.bool b) (.bool b) = some (.bool false) := fun b kk => by cases b <;> cases kk <;> kernel_rfl
   have eO : ∀ kk, Js Tryz.prog kk .eql 28 (.int .i64 ((cond WN 0 4 : Nat) : Int)) (.int .i64 0) = some (.bool WN) := fun kk => by rw [JD]; cases WN <;> rfl
   have eN : ∀ (b : Bool) kk, Js Tryz.prog kk .neq 28 (.int .i64 ((cond b 0 4 : Nat) : Int)) (.int .i64 0) = some (.bool (!b)) := fun b kk => by rw [J2]; cases b <;> rfl
   refine Kk_ (Ks_ (Ka_ (gs := [none, none, none, none, none, none, none]) fun K1 gK => ?_))
   simp (disch := omega) [hF, l1, hc2]
   refine gK _ _ (Ks_ (Ks_ (Ka_ (gs := [none, none, none, none, none]) fun K1 gK => ?_)))
   simp (disch := omega) [hF, l2, hc3, eB, eO]
   refine gK _ _ (Kf_ (by simp (disch := omega) []) (Kk_ (Ks_ (Ks_ (Ka_ (gs := [none, none]) fun K1 gK => ?_)))))
   simp (disch := omega) [eO]
   refine gK _ _ ?_
   refine Km_ (fun fr st' => Fs gl [(1, .str s)] fr ∧ Keep s3 st') ?_ ?_
   ·as_aux_lemma =>
    intro K2 gm2 go2
    cases WN with
    | true =>
     refine Kt_ (by simp (disch := omega) []) (Ks_ ?_)
     refine Kn_ (fun fr => Fs gl [(1, .str s), (2, .ptr st.ctr 0), (5, .str z)] fr) (by simp [Fs, hF]) ?_
     clear hF
     rintro fr hF
     simp only [Fs] at hF
     rw [cond_true] at hz2
     have hfz : ∀ t' : Nt, t'.okN → z.toList = shw t' → t'.fit := fun t' ho' he => JgH t' t (Jc5 t' ho' t (Jdm t hsm hWN) [] [] (by rw [List.append_nil, List.append_nil, ← he, hz2])).1 hft
     have hzn : z.n = (shw t).length := by rw [← S.len, hz2]
     obtain ⟨v, s4, hc4, ⟨cs1, t1, ok1, hp1⟩, hk4⟩ := Says.use (JgG gl hg hg2 hg3 hh s3 z (by omega) hfz)
     have hok1 : ok1 = true := by
      cases ok1 with
      | true => rfl
      | false => exact absurd ⟨Jdm t hsm hWN, hWN, hz2⟩ ((hp1.n rfl).2 t)
     subst hok1
     obtain ⟨y1, y2, y3⟩ := hp1.y rfl
     have hs1 : Jaz t1 t = true := (Jc5 t1 y1 t (Jdm t hsm hWN) [] [] (by rw [List.append_nil, List.append_nil, ← y3, hz2])).1
     have hv4 := hp1.v
     rw [hv4] at hc4
     have hr4 := hp1.f.nr
     obtain ⟨w, w2, ew, hw, bw2, kw2, cw2⟩ := Jiv s4 hr4.len hr4.ones
     have l5 := Jac bw2 hr4.len
     have kall := hk1.trans (hk2.trans (hk3.trans (hk4.trans kw2)))
     have l6 := Jac (hT.keep kall).b hcl
     obtain ⟨v, s5, hc5, rfl, hk5⟩ := Says.use (JjM gl t1 (JgH t1 t hs1 hft) w2 cs1 cs t (hr4.keep kw2) (hr.keep kall) hft)
     rw [hs1] at hc5
     have eN1 := eN true
     rw [cond_true] at eN1
     have g0 : ([V.agg cs1, V.int .i64 0] : List V)[0]? = some (V.agg cs1) := rfl
     have g1 : ([V.int .i64 0] : List V)[0]? = some (.int .i64 0) := rfl
     have eZ : ∀ kk, Js Tryz.prog kk .neq 28 (.int .i64 0) (.int .i64 0) = some (.bool false) := fun kk => by rw [JgB]; rfl
     refine Ka_ (gs := [none, none, none, none, none, none, none, none]) fun K1 gK => ?_
     simp (disch := omega) [hF, Ja, hc4, g0, g1, Qb, JE, JF, o1, ew, hw]
     refine gK _ _ (Ks_ ?_)
     refine Kn_ (fun fr => Fs gl [(1, .str s), (2, .ptr st.ctr 0), (7, .ptr s4.ctr 0), (8, .int .i64 0)] fr) (by simp [Fs, hF]) ?_
     clear hF
     rintro fr hF
     simp only [Fs] at hF
     refine Ka_ (gs := [none, none, none, some (some 45, false), some (some 45, false), some (some 45, false), some (some 45, false), none]) fun K1 gK => ?_
     simp (disch := omega) [hF, l5, l6, hc5, eZ]
     refine gK _ _ (Kf_ (by simp (disch := omega) []) (Kk_ ?_))
     exact gm2 _ _ ⟨by simp [Fs, hF], hk4.trans (kw2.trans hk5)⟩
    | false =>
     refine Kf_ (by simp (disch := omega) []) (Kk_ ?_)
     exact gm2 _ _ ⟨by simp [Fs, hF], .refl _⟩
   ·as_aux_lemma =>
    clear hF
    rintro fr st' ⟨hF, hk4⟩
    simp only [Fs] at hF
    obtain ⟨v, s5, hc5, ⟨cs2, t2, ok2, hp2⟩, hk5⟩ := Says.use (JgG gl hg hg2 hg3 hh st' s (by omega) (JgI (by omega)))
    have hv5 := hp2.v
    rw [hv5] at hc5
    have hr5 := hp2.f.nr
    obtain ⟨w, w2, ew, hw, bw2, kw2, cw2⟩ := Jiv s5 hr5.len hr5.ones
    have l7 := Jac bw2 hr5.len
    have eN2 := eN ok2
    obtain ⟨n2, hn2⟩ : ∃ n : Int, ((cond ok2 0 4 : Nat) : Int) = n := ⟨_, rfl⟩
    rw [hn2] at hc5 eN2
    have g0 : ([V.agg cs2, V.int .i64 n2] : List V)[0]? = some (V.agg cs2) := rfl
    have g1 : ([V.int .i64 n2] : List V)[0]? = some (.int .i64 n2) := rfl
    refine Ks_ (Ka_ (gs := [none, none, none, none, none, none, none, none]) fun K1 gK => ?_)
    simp (disch := omega) [hF, Ja, hc5, g0, g1, Qb, JE, JF, o1, ew, hw]
    refine gK _ _ (Ks_ (Ks_ ?_))
    refine Kn_ (fun fr => Fs gl [(1, .str s), (9, .ptr s5.ctr 0), (10, .int .i64 n2)] fr) (by simp [Fs, hF]) ?_
    clear hF
    rintro fr hF
    simp only [Fs] at hF
    refine Ka_ (gs := [none, none]) fun K1 gK => ?_
    simp (disch := omega) [hF, eN2]
    refine gK _ _ ?_
    cases ok2 with
    | true =>
     refine Kf_ (by simp (disch := omega) []) ?_
     obtain ⟨y1, y2, y3⟩ := hp2.y rfl
     have hft2 := JgI (s := s) (by omega) t2 y1 y3
     have hsl : (shw t2).length = s.n := by rw [← y3, S.len]
     obtain ⟨v, s6, hc6, ⟨z2, rfl, hz6⟩, hk6⟩ := Says.use (Jiq gl hg hh w2 cs2 t2 (hr5.keep kw2) hft2 (by omega))
     rw [y2] at hc6 hz6
     have l8 := Jac ((hk6.box s5.ctr cw2).trans bw2) hr5.len
     obtain ⟨v, s7, hc7, rfl, hk7⟩ := Says.use (JcP gl hh t2 hft2 s6 cs2 ((hr5.keep kw2).keep hk6))
     rw [y2] at hc7
     have hss : z2.same s = true := by rw [S.same_eq, hz6, y3]; simp
     have eO2 : ∀ kk, Js Tryz.prog kk .eql 28 (.int .i64 0) (.int .i64 0) = some (.bool true) := fun kk => by rw [Jcg]; rfl
     refine Kk_ (Ks_ (Ka_ (gs := [none, none, none, none, none, none, none]) fun K1 gK => ?_))
     simp (disch := omega) [hF, l7, hc6]
     refine gK _ _ (Ks_ ?_)
     refine Kn_ (fun fr => Fs gl [(1, .str s), (9, .ptr s5.ctr 0), (11, .str z2), (12, .int .i64 0)] fr) (by simp [Fs, hF]) ?_
     clear hF
     rintro fr hF
     simp only [Fs] at hF
     refine Ka_ (gs := [none, none, none, some (some 65, true), some (some 65, true), some (some 65, true), none, none, some (some 70, true), some (some 70, true), none, none]) fun K1 gK => ?_
     simp (disch := omega) [hF, l8, hc7, hss, eO2]
     refine gK _ _ (Kq_ (gr _ _ ?_))
     simp [JR, Tryz.f4, hF]
     refine hR _ _ ?_
     rfl
    | false =>
     refine Kt_ (by simp (disch := omega) []) (Ks_ (Ka_ (gs := [none]) fun K1 gK => ?_))
     simp (disch := omega) []
     refine gK _ _ (Kq_ (gr _ _ ?_))
     simp [JR, Tryz.f4, hF]
     refine hR _ _ ?_
     rfl
end Go.Vm
