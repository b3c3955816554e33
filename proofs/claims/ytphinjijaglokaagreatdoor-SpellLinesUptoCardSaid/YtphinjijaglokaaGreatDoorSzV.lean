/- SpellLines: the law, by the program. -/
import Derived.Test.YtphinjijaglokaaGreatDoorSzP
import Derived.Test.YtphinjijaglokaaGreatDoorSzT
namespace Go.Vm
open Go Go.Proofs Go.Pa
attribute [local simp] OkP Qo OkS J0 OkG JX J2 OkD JH J1 Ju Jg Jh vop Ji Jp ev evs toV Jf Fr.dsTo Fr.glTo Fr.toNone Jc Jd Je JZ Qk Jb Jr Jj V.undef JG Jx JK JI JL JO JT JP JF JQ JU JM JJ JV Jo Jk Jl Js Jt Jn Jy Jz Jw J3
theorem Jiv {ts : List S} (h : (ts.map S.toList).Nodup) {i k : Nat} (hi : i < ts.length) (hk : k < i) : ts[i].same (ts[k]'(by omega)) = false := by
 have h1 := List.pairwise_iff_getElem.1 h k i (by simp; omega) (by simpa using hi) hk
 simp only [List.getElem_map] at h1
 rw [S.same_eq]
 exact beq_eq_false_iff_ne.2 fun e => h1 e.symm
def Jdf (ts us : List S) (i : Nat) (a : Bool) : Prop := (a = true → ts.length = us.length ∧ ∀ j (h : j < ts.length) (h' : j < us.length), j < i → ts[j].toList = us[j].toList) ∧ (a = false → ¬ ts.map S.toList = us.map S.toList)
theorem Jiw (ts us : List S) : Jdf ts us 0 (decide (ts.length = us.length)) := by
 refine ⟨fun h => ⟨of_decide_eq_true h, fun j _ _ h => absurd h (Nat.not_lt_zero j)⟩, fun h e => ?_⟩
 have := congrArg List.length e
 rw [List.length_map, List.length_map] at this
 exact of_decide_eq_false h this
theorem Jix {ts us : List S} {i : Nat} (h : Jdf ts us i true) (hi : i < ts.length) (hi' : i < us.length) : Jdf ts us (i + 1) (ts[i].same us[i]) := by
 obtain ⟨h1, h2⟩ := h.1 rfl
 refine ⟨fun hs => ⟨h1, fun j hj hj' hji => ?_⟩, fun hs e => ?_⟩
 ·by_cases he : j = i
  ·subst he; exact Jbw hs
  ·exact h2 j hj hj' (by omega)
 ·have := congrArg (fun l => l[i]?) e
  simp only [List.getElem?_map, List.getElem?_eq_getElem hi, List.getElem?_eq_getElem hi', Option.map_some, Option.some.injEq] at this
  rw [S.same_eq, this] at hs
  simp at hs
theorem Jf4 {ts us : List S} {i : Nat} {a : Bool} (h : Jdf ts us i a) (hi : ts.length ≤ i ∨ a = false) : a = decide (ts.map S.toList = us.map S.toList) := by
 cases a with
 | false => exact (decide_eq_false (h.2 rfl)).symm
 | true =>
  obtain ⟨h1, h2⟩ := h.1 rfl
  have hi := hi.resolve_right (by simp)
  refine (decide_eq_true (List.ext_getElem (by simpa using h1) fun j h3 h4 => ?_)).symm
  simp only [List.length_map] at h3 h4
  rw [List.getElem_map, List.getElem_map]
  exact h2 j h3 h4 (by omega)
variable [Memo] [NY] [NZ] [NO] [NA]
set_option maxHeartbeats 8000000 in
set_option maxRecDepth 100000 in
theorem law5 (gl : Gl) (hg : gl.get 1 = some powV) {aL : List V} (hh : Hits gl aL) (st : St) (cs cs' : List V) (t t' : Nt) (hr : NR e0 cs t) (hr' : NR e0 cs' t') (hm : t.mass ≤ 1000000000) (hm' : t'.mass ≤ 1000000000) :
  Says Tryz.prog gl 5 [.agg cs, .agg cs'] st (fun v _st' => v = .bool true) := by
 refine Qh (NY.no _ rfl rfl rfl _ _) Tryz.func5 rfl (by kernel_rfl) fun R hR K gr gn => ?_
 generalize hfr : JB gl [.agg cs, .agg cs'] = fr
 have hF : Fs gl [(0, .agg cs), (1, .agg cs')] fr := by subst hfr; simp [Fs]
 simp only [Fs] at hF
 clear hfr
 have ho := hr.ones
 have ho' := hr'.ones
 have hcl := hr.len
 have hcl' := hr'.len
 obtain ⟨q, hb, kq, hT, hT', cq⟩ := JfW st cs cs'
 have l0 := Ja3 hT.b hcl
 obtain ⟨v, s1, hc1, ⟨r, rfl, hr1, hr2, hr3⟩, hk1⟩ := Says.use (Jjh gl t hm q cs (hr.keep (k0 q)))
 have l1 := Ja3 (hT'.keep hk1).b hcl'
 obtain ⟨v, s2, hc2, ⟨r', rfl, hr1', hr2', hr3'⟩, hk2⟩ := Says.use (Jjh gl t' hm' s1 cs' (hr'.keep (k0 s1)))
 obtain ⟨G, hG⟩ : ∃ b, decide (300 < r) = b := ⟨_, rfl⟩
 obtain ⟨H, hH⟩ : ∃ b, decide (300 < r') = b := ⟨_, rfl⟩
 have eG : ∀ kk, Jv Tryz.prog kk .gtr 3 (.int .i64 r) (.int .i64 300) = some (.bool G) := fun kk => by rw [← hG]; exact Jcn
 have eH : ∀ kk, Jv Tryz.prog kk .gtr 3 (.int .i64 r') (.int .i64 300) = some (.bool H) := fun kk => by rw [← hH]; exact Jcn
 refine Ks_ (Ka_ (gs := [none, none, none]) fun K1 gK => ?_)
 simp (disch := omega) [hF, Ja, ho, ho', hb]
 refine gK _ _ (Ks_ (Ks_ ?_))
 refine Km_ (fun fr st' => Fs gl [(2, .ptr st.ctr 0), (3, .ptr (st.ctr + 1) 0), (24, .bool (G || H))] fr ∧ Keep q st') ?_ ?_
 ·as_aux_lemma =>
  intro K1 gm1 go1
  refine Ka_ (gs := [none, none, none, none, some (some 16, false), some (some 16, false), some (some 16, false), none, none, some (some 21, false), some (some 21, false), none]) fun K1 gK => ?_
  refine OkG.cutK 8 (fun fr st' => Fs gl [(2, .ptr st.ctr 0), (3, .ptr (st.ctr + 1) 0), (20, .bool (G || H))] fr ∧ Keep q st') (by kernel_rfl) ?_ ?_
  ·as_aux_lemma =>
   intro Kc gKc
   simp only [List.take]
   cases G with
   | true =>
    simp (disch := omega) [hF, l0, hc1, eG]
    exact gKc _ _ ⟨by simp [Fs, hF], hk1⟩
   | false =>
    simp (disch := omega) [hF, l0, hc1, l1, hc2, eG, eH]
    exact gKc _ _ ⟨by simp [Fs, hF], hk1.trans hk2⟩
  ·as_aux_lemma =>
   clear hF
   rintro fr st' ⟨hF, hkA⟩
   simp only [Fs] at hF
   simp only [List.drop]
   obtain ⟨X, hX⟩ : ∃ b, (G || H) = b := ⟨_, rfl⟩
   rw [hX] at hF
   obtain ⟨v, sa, hca, rfl, hsa⟩ := Says.use (Jg6 gl st')
   rw [show sa = st' from hsa] at hca
   cases X with
   | true =>
    simp (disch := omega) [hF]
    refine gK _ _ ?_
    exact gm1 _ _ ⟨by simp [Fs, hF, hX],  hkA⟩
   | false =>
    simp (disch := omega) [hF, hca]
    refine gK _ _ ?_
    exact gm1 _ _ ⟨by simp [Fs, hF, hX],  hkA⟩
 ·as_aux_lemma =>
  clear hF
  rintro fr st' ⟨hF, hkA⟩
  simp only [Fs] at hF
  obtain ⟨X, hX⟩ : ∃ b, (G || H) = b := ⟨_, rfl⟩
  rw [hX] at hF
  obtain ⟨v, sa, hca, rfl, hsa⟩ := Says.use (Jg6 gl st')
  rw [show sa = st' from hsa] at hca
  cases X with
  | true =>
   refine Kt_ (by simp (disch := omega) [hF]) (Ks_ (Ka_ (gs := [none, none]) fun K1 gK => ?_))
   simp (disch := omega) [hF, hca]
   refine gK _ _ (Kq_ (gr _ _ ?_))
   simp [J7, Tryz.f5, hF]
   refine hR _ _ ?_
   rfl
  | false =>
   refine Kf_ (by simp (disch := omega) [hF]) ?_
   have hz : r ≤ 300 ∧ r' ≤ 300 := by
    rw [← hG, ← hH] at hX
    simp only [Bool.or_eq_false_iff, decide_eq_false_iff_not] at hX
    omega
   obtain ⟨hsm, hnd⟩ := hr3 (by omega)
   obtain ⟨hsm', hnd'⟩ := hr3' (by omega)
   have hft := hsm.fit
   have hft' := hsm'.fit
   have l2 := Ja3 (hT.keep hkA).b hcl
   obtain ⟨v, s3, hc3, ⟨x, ts, rfl, hts, hmx⟩, hk3⟩ := Says.use (Jjg gl hg hh st' cs t hr hft (by omega))
   obtain ⟨WN, hWN⟩ : ∃ b, QA t = b := ⟨_, rfl⟩
   rw [hWN] at hc3 hts
   have eN : ∀ (b : Bool) kk, Jv Tryz.prog kk .neq 28 (.int .i64 ((cond b 0 4 : Nat) : Int)) (.int .i64 0) = some (.bool (!b)) := fun b kk => by rw [JQ]; cases b <;> rfl
   have eNW := eN WN
   obtain ⟨n1, hn1⟩ : ∃ n : Int, ((cond WN 0 4 : Nat) : Int) = n := ⟨_, rfl⟩
   rw [hn1] at hc3 eNW
   refine Kk_ (Ks_ (Ka_ (gs := [none, none, none, none, none, none, none]) fun K1 gK => ?_))
   simp (disch := omega) [hF, l2, hc3]
   refine gK _ _ (Ks_ (Ks_ (Ka_ (gs := [none, none]) fun K1 gK => ?_)))
   simp (disch := omega) [eNW]
   refine gK _ _ ?_
   refine Kn_ (fun fr => Fs gl [(2, .ptr st.ctr 0), (3, .ptr (st.ctr + 1) 0), (5, x), (32, .bool (!WN))] fr) (by simp [Fs, hF]) ?_
   clear hF
   rintro fr hF
   simp only [Fs] at hF
   have l3 := Ja3 (hT.keep (hkA.trans hk3)).b hcl
   have lx := hmx.vw.len Tryz.underlying22
   cases WN with
   | true =>
    refine Kf_ (by simp (disch := omega) [hF]) ?_
    have hw1 := Jif t hWN []
    rw [cond_true] at hts
    have htl : ts.length = t.nodes := by rw [← hw1, ← hts, List.length_map]
    obtain ⟨v, s4, hc4, rfl, hk4⟩ := Says.use (Jkw gl t hft (by omega) s3 cs (hr.keep (k0 s3)))
    rw [← htl] at hc4
    have eL : ∀ kk, Jv Tryz.prog kk .neq 3 (.int .i64 (ts.length : Int)) (.int .i64 (ts.length : Int)) = some (.bool false) := fun kk => by rw [JI]; simp
    refine Kk_ (Ks_ (Ks_ (Ka_ (gs := [none, none, none, none, none]) fun K1 gK => ?_)))
    simp (disch := omega) [hF, l3, lx, hc4, eL]
    refine gK _ _ (Kf_ (by simp (disch := omega) []) (Kk_ (Ks_ (Ks_ (Ka_ (gs := [none]) fun K1 gK => ?_)))))
    simp (disch := omega) []
    refine gK _ _ ?_
    have hnu : (ts.map S.toList).Nodup := by rw [hts]; exact Jg8 t hWN [] (fun s h => by cases h)
    have hvx := (hmx.keep hk4).vw
    refine Kl_ (ts.length) (fun i fr st' => Fs gl [(2, .ptr st.ctr 0), (3, .ptr (st.ctr + 1) 0), (5, x), (7, .int .i64 (i : Int))] fr ∧ i ≤ ts.length ∧ Keep s4 st') (0) (fun fr st' => Fs gl [(2, .ptr st.ctr 0), (3, .ptr (st.ctr + 1) 0), (5, x)] fr ∧ Keep s4 st') ?_ ?_ ?_ ?_
    ·exact ⟨by simp [Fs, hF], Nat.zero_le _, .refl _⟩
    ·rintro i fr st' ⟨_, hi, hks⟩
     omega
    ·as_aux_lemma =>
     clear hF
     rintro i fr st' ⟨hF, hi, hks⟩ K2 gk2 gx2 go2
     simp only [Fs] at hF
     refine Ks_ (Ks_ (Ka_ (gs := [none, none, none, none]) fun K1 gK => ?_))
     simp (disch := omega) [hF, lx]
     refine gK _ _ ?_
     by_cases hlt : i < ts.length
     ·
      refine Kt_ (by simp (disch := omega) [hlt]) (Kk_ (Ks_ ?_))
      refine Kb_ fun K3 gn3 gx3 go3 => ?_
      refine Ks_ (Ka_ (gs := [none]) fun K1 gK => ?_)
      simp (disch := omega) [hlt]
      refine gK _ _ ?_
      refine Kl_ (i) (fun k fr st' => Fs gl [(2, .ptr st.ctr 0), (3, .ptr (st.ctr + 1) 0), (5, x), (7, .int .i64 (i : Int)), (8, .int .i64 (k : Int))] fr ∧ k ≤ i ∧ Keep s4 st') (0) (fun fr st' => Fs gl [(2, .ptr st.ctr 0), (3, .ptr (st.ctr + 1) 0), (5, x), (7, .int .i64 (i : Int))] fr ∧ Keep s4 st') ?_ ?_ ?_ ?_
      ·exact ⟨by simp [Fs, hF], Nat.zero_le _, hks⟩
      ·rintro k fr st' ⟨_, hk, hks⟩
       omega
      ·as_aux_lemma =>
       clear hF
       rintro k fr st' ⟨hF, hk, hks⟩ K4 gk4 gx4 go4
       simp only [Fs] at hF
       refine Ks_ (Ks_ (Ka_ (gs := [none, none, none]) fun K1 gK => ?_))
       simp (disch := omega) [hF]
       refine gK _ _ ?_
       by_cases hlk : k < i
       ·
        refine Kt_ (by simp (disch := omega) [hlk]) ?_
        have hlk' : k < ts.length := by omega
        have x1 := hvx.ix Tryz.underlying22 z9 (k := .i64) (a := (i : Int)) (by omega) (by omega)
        have x2 := hvx.ix Tryz.underlying22 z9 (k := .i64) (a := (k : Int)) (by omega) (by omega)
        obtain ⟨qt, hqt, kt, _⟩ := Jg7 st' 9
        have d1 := (hvx.keep (hks.trans kt)).ld z9 a9 hlt
        have d2 := (hvx.keep (hks.trans kt)).ld z9 a9 hlk'
        have hne := Jiv hnu hlt hlk
        refine Kk_ (Ks_ ?_)
        refine Kb_ fun K5 gn5 gx5 go5 => ?_
        refine Ks_ (Kh_ (b := [0, 0, 3, 7, 0, 0, 48, 112, 255]) (gs := [none, none, none, none, none, none, none, none, none]) fun K1 gK => ?_)
        simp (disch := omega) [hF, hlk, x1, x2, hqt, d1, d2, hne]
        refine gK _ _ (Kf_ (by simp (disch := omega) []) (Kk_ (gn5 _ _ (Ka_ (gs := [none, none, none]) fun K1 gK => ?_))))
        simp (disch := omega) [hF]
        refine gK _ _ ?_
        refine gk4 (k + 1) _ _ (by omega) ⟨by simp [Fs, hF], by omega, hks.trans kt⟩
       ·
        refine Kf_ (by simp (disch := omega) [hlk]) ?_
        exact Kx_ (gx4 _ _ ⟨by simp [Fs, hF, hlk], hks⟩)
      ·as_aux_lemma =>
       clear hF
       rintro fr st' ⟨hF, hks⟩
       simp only [Fs] at hF
       refine gn3 _ _ (Ka_ (gs := [none, none, none]) fun K1 gK => ?_)
       simp (disch := omega) [hF]
       refine gK _ _ ?_
       refine gk2 (i + 1) _ _ (by omega) ⟨by simp [Fs, hF], by omega, hks⟩
     ·
      refine Kf_ (by simp (disch := omega) [hlt]) ?_
      exact Kx_ (gx2 _ _ ⟨by simp [Fs, hF, hlt], hks⟩)
    ·as_aux_lemma =>
     clear hF
     rintro fr st' ⟨hF, hks⟩
     simp only [Fs] at hF
     have hk4 := hk4.trans hks
     have hvx := hvx.keep hks
     have l4 := Ja3 (hT'.keep (hkA.trans (hk3.trans hk4))).b hcl'
     obtain ⟨v, s5, hc5, ⟨y, us, rfl, hus, hmy⟩, hk5⟩ := Says.use (Jjg gl hg hh st' cs' t' hr' hft' (by omega))
     obtain ⟨WM, hWM⟩ : ∃ b, QA t' = b := ⟨_, rfl⟩
     rw [hWM] at hc5 hus
     have eNM := eN WM
     obtain ⟨n2, hn2⟩ : ∃ n : Int, ((cond WM 0 4 : Nat) : Int) = n := ⟨_, rfl⟩
     rw [hn2] at hc5 eNM
     refine Ks_ (Ka_ (gs := [none, none, none, none, none, none, none]) fun K1 gK => ?_)
     simp (disch := omega) [hF, l4, hc5]
     refine gK _ _ (Ks_ (Ks_ (Ka_ (gs := [none, none]) fun K1 gK => ?_)))
     simp (disch := omega) [eNM]
     refine gK _ _ ?_
     refine Kn_ (fun fr => Fs gl [(2, .ptr st.ctr 0), (3, .ptr (st.ctr + 1) 0), (5, x), (9, y), (72, .bool (!WM))] fr) (by simp [Fs, hF]) ?_
     clear hF
     rintro fr hF
     simp only [Fs] at hF
     cases WM with
     | true =>
      refine Kf_ (by simp (disch := omega) [hF]) ?_
      rw [cond_true] at hus
      have hvx5 := hvx.keep hk5
      have hvy := hmy.vw
      have lx5 := hvx5.len Tryz.underlying22
      have ly := hvy.len Tryz.underlying22
      refine Kk_ (Ks_ (Ka_ (gs := [none, none, none, none, none, none]) fun K1 gK => ?_))
      simp (disch := omega) [hF, lx, ly]
      refine gK _ _ (Ks_ (Ks_ (Ka_ (gs := [none]) fun K1 gK => ?_)))
      simp (disch := omega) []
      refine gK _ _ ?_
      refine Kl_ (ts.length) (fun i fr st' => ∃ (a : Bool), Fs gl [(2, .ptr st.ctr 0), (3, .ptr (st.ctr + 1) 0), (5, x), (9, y), (11, .bool a), (12, .int .i64 (i : Int))] fr ∧ i ≤ ts.length ∧ Jdf ts us i a ∧ Keep s5 st') (0) (fun fr st' => ∃ (a : Bool), Fs gl [(2, .ptr st.ctr 0), (3, .ptr (st.ctr + 1) 0), (11, .bool a)] fr ∧ a = decide (ts.map S.toList = us.map S.toList) ∧ Keep s5 st') ?_ ?_ ?_ ?_
      ·exact ⟨decide (ts.length = us.length), by simp [Fs, hF], Nat.zero_le _, Jiw ts us, .refl _⟩
      ·rintro i fr st' ⟨a, _, hi, hal, hkt⟩
       omega
      ·as_aux_lemma =>
       clear hF
       rintro i fr st' ⟨a, hF, hi, hal, hkt⟩ K6 gk6 gx6 go6
       simp only [Fs] at hF
       obtain ⟨B, hB⟩ : ∃ b, decide (i < ts.length) = b := ⟨_, rfl⟩
       have eB : ∀ kk, Jv Tryz.prog kk .lss 3 (.int .i64 (i : Int)) (.int .i64 (ts.length : Int)) = some (.bool B) := fun kk => by rw [← hB]; exact JL
       cases B with
       | true =>
        cases a with
        | true =>
         have hlt := of_decide_eq_true hB
         have hlu : i < us.length := by rw [← (hal.1 rfl).1]; exact hlt
         obtain ⟨qt, hqt, kt, _⟩ := Jg7 st' 10
         have x1 := hvx5.ix Tryz.underlying22 z9 (k := .i64) (a := (i : Int)) (by omega) (by omega)
         have x2 := hvy.ix Tryz.underlying22 z9 (k := .i64) (a := (i : Int)) (by omega) (by omega)
         have d1 := (hvx5.keep (hkt.trans kt)).ld z9 a9 hlt
         have d2 := (hvy.keep (hkt.trans kt)).ld z9 a9 hlu
         obtain ⟨E, hE⟩ : ∃ b, ts[i].same us[i] = b := ⟨_, rfl⟩
         have hal' := Jix hal hlt hlu
         rw [hE] at hal'
         refine Ks_ (Ks_ (Ka_ (gs := [none, none, none, none, none, some (some 82, true), none]) fun K1 gK => ?_))
         simp (disch := omega) [hF, lx, eB]
         refine gK _ _ (Kt_ (by simp (disch := omega) []) (Kk_ (Ks_ ?_)))
         refine Kb_ fun K7 gn7 gx7 go7 => ?_
         refine Kh_ (b := [0, 0, 3, 7, 0, 0, 48, 112, 255, 511]) (gs := [none, none, none, none, none, none, none, none, none, none]) fun K1 gK => ?_
         simp (disch := omega) [hF, x1, x2, hqt, d1, d2, hE]
         refine gK _ _ (gn7 _ _ (Ka_ (gs := [none, none, none]) fun K1 gK => ?_))
         simp (disch := omega) [hF]
         refine gK _ _ ?_
         refine gk6 (i + 1) _ _ (by omega) ⟨E, by simp [Fs, hF], by omega, hal', hkt.trans kt⟩
        | false =>
         refine Ks_ (Ks_ (Ka_ (gs := [none, none, none, none, none, some (some 82, true), none]) fun K1 gK => ?_))
         simp (disch := omega) [hF, lx, eB]
         refine gK _ _ (Kf_ (by simp (disch := omega) []) ?_)
         exact Kx_ (gx6 _ _ ⟨false, by simp [Fs, hF], Jf4 hal (.inr rfl), hkt⟩)
       | false =>
        have hge : ts.length ≤ i := by have := of_decide_eq_false hB; omega
        refine Ks_ (Ks_ (Ka_ (gs := [none, none, none, none, none, some (some 82, true), none]) fun K1 gK => ?_))
        simp (disch := omega) [hF, lx, eB]
        refine gK _ _ (Kf_ (by simp (disch := omega) []) ?_)
        exact Kx_ (gx6 _ _ ⟨a, by simp [Fs, hF], Jf4 hal (.inl hge), hkt⟩)
      ·as_aux_lemma =>
       clear hF
       rintro fr st' ⟨a, hF, hal, hkt⟩
       simp only [Fs] at hF
       have hk5 := hk5.trans hkt
       have l6 := Ja3 (hT.keep (hkA.trans (hk3.trans (hk4.trans hk5)))).b hcl
       have l7 := Ja3 (hT'.keep (hkA.trans (hk3.trans (hk4.trans hk5)))).b hcl'
       obtain ⟨v, s6, hc6, rfl, hk6⟩ := Says.use (Jkx gl t hft st' cs cs' t' (hr.keep (k0 st')) (hr'.keep (k0 st')) hft')
       rw [hts, hus, Jig hWN hWM] at hal
       have eF : ∀ kk, Jv Tryz.prog kk .eql 4 (.bool a) (.bool (Jai t t')) = some (.bool true) := fun kk => by rw [hal]; cases Jai t t' <;> cases kk <;> kernel_rfl
       refine Ks_ (Ka_ (gs := [none, none, none, none, none, none]) fun K1 gK => ?_)
       simp (disch := omega) [hF, l6, l7, hc6, eF]
       refine gK _ _ (Kq_ (gr _ _ ?_))
       simp [J7, Tryz.f5, hF]
       refine hR _ _ ?_
       rfl
     | false =>
      refine Kt_ (by simp (disch := omega) [hF]) (Ks_ (Ka_ (gs := [none]) fun K1 gK => ?_))
      simp (disch := omega) []
      refine gK _ _ (Kq_ (gr _ _ ?_))
      simp [J7, Tryz.f5, hF]
      refine hR _ _ ?_
      rfl
   | false =>
    refine Kt_ (by simp (disch := omega) [hF]) ?_
    obtain ⟨v, s5, hc5, rfl, hk5⟩ := Says.use (Jhc gl hh t hft s3 cs (hr.keep (k0 s3)))
    rw [hWN] at hc5
    have htz : ts = [] := by simpa using hts
    have eZ : ∀ kk, Jv Tryz.prog kk .eql 3 (.int .i64 (ts.length : Int)) (.int .i64 0) = some (.bool true) := fun kk => by rw [JF, htz]; rfl
    refine Ks_ (Ka_ (gs := [none, none, none, none, some (some 36, true), some (some 36, true), some (some 36, true), none, none]) fun K1 gK => ?_)
    simp (disch := omega) [hF, l3, hc5, lx, eZ]
    refine gK _ _ (Kq_ (gr _ _ ?_))
    simp [J7, Tryz.f5, hF]
    refine hR _ _ ?_
    rfl
end Go.Vm
