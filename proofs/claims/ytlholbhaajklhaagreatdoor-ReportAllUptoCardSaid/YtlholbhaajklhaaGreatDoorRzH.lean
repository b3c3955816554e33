/- A scenario's lines: by the document. -/
import Derived.Test.YtlholbhaajklhaaGreatDoorRzG
namespace Go.Vm
open Go Go.Proofs Go.Pa
attribute [local simp] OkS QL OkG Qu QB OkD Qd Qn JS Jh Jn vop Ju JG ev evs toV Jm Fr.dsTo Fr.glTo Fr.toNone Jj Jk Jl Qj QN Jc JL Jv V.undef J5 JV Qo Qg Qh Qk Qp Qq JU J8 Qr Ql JX Qs JC JF JE Jz JM Jo JW J2 JK Qb
theorem JfC {l : List Fw} {z : List UInt8} : ∀ {ts : List Tw} {ns p : List S}, z ∈ Jaa l ts ns p → ∃ i, ∃ hi : i < ts.length, ∃ hi' : i < ns.length, z ∈ J9 l ts[i] (p ++ [ns[i]])
 | [], ns, p, h => by rw [Ja5] at h; cases h
 | t :: ts, [], p, h => by simp [Jaa] at h
 | t :: ts, n :: ns, p, h => by
  simp only [Jaa, List.mem_append] at h
  rcases h with h | h
  ·exact ⟨0, by simp, by simp, h⟩
  ·obtain ⟨i, hi, hi', hz⟩ := JfC h
   exact ⟨i + 1, by simpa using hi, by simpa using hi', by simpa using hz⟩
theorem Jlt {l : List Fw} (hm : MayF l) (hs : ∀ f ∈ l, f.small) (hl : l.length ≤ 60) {n : Int} (h0 : 0 ≤ n) (h1 : n < (l.length : Int)) : (Jjt l n).length ≤ 302000 := by
 have hlt : n.toNat < l.length := by omega
 have hpl := Jc2 hm n.toNat hlt
 exact Jfj (by omega) (Jbz hm hs n.toNat hlt)
theorem Jjx {l : List Fw} (hm : MayF l) (hs : ∀ f ∈ l, f.small) (hl : l.length ≤ 60) {t : Tw} (hsm : t.small) : JaH l t = true → ∀ p : List S, p.length + t.nodes ≤ 250 → (∀ s ∈ p, s.n ≤ 300) → ∀ z ∈ J9 l t p, z.length ≤ 700000 := by
 induction hsm with
 | mk ref kind text base nv names kv kids ht hn hnt hk hks ih =>
  intro hmay p hp hps z hz
  have hp' : p.length + (QC kids + 1) ≤ 250 := by simpa only [Tw.nodes] using hp
  simp only [J9, List.mem_cons] at hz
  have hc := Jfj (p := p) (by omega) hps
  have he := QK text.toList
  rw [S.len] at he
  rcases hz with rfl | hz
  ·have ho : (JeJ l ref kind text base).length ≤ 330000 := by
    rcases JcM hmay with h | h
    ·have := Jlt hm hs hl h.1 h.2
     unfold JeJ; rw [decide_eq_true h.1, cond_true]; simp; omega
    ·obtain ⟨m1, m2, m3⟩ := Jjv hmay h.1
     rw [← Jkn h.1 m1 m2 m3]
     have hw := Jls kind
     have hd : (JgN l base).length ≤ 302010 := by
      unfold JgN
      by_cases hb : 0 ≤ base
      ·have hb1 : base < (l.length : Int) := by
        rcases h.2 with h2 | h2
        ·have := m3 (by omega); omega
        ·exact h2.2.2.1 hb
       have := Jlt hm hs hl hb hb1
       rw [decide_eq_true hb, cond_true]; simp; omega
      ·rw [decide_eq_false hb, cond_false]; simp
     simp only [List.length_append]; omega
   simp only [List.length_append, List.length_cons, List.length_nil]; omega
  ·by_cases h0 : 0 ≤ ref
   ·rw [decide_eq_true h0, cond_true] at hz; cases hz
   ·rw [decide_eq_false h0, cond_false] at hz
    obtain ⟨i, hi, hi', hz⟩ := JfC hz
    have hin := List.getElem_mem hi
    have hnk := Ja3 hin
    have hmk : JaH l kids[i] = true := by
     rcases JcM hmay with h | h
     ·exact absurd h.1 h0
     ·rcases h.2 with h2 | h2
      ·rw [h2.2.1] at hi; simp at hi
      ·exact h2.2.2.2 _ hin
    exact ih _ hin hmk _ (by simp; omega) (Jeg hps (hnt _ (List.getElem_mem hi'))) z hz
theorem Jpu {s : Sw} (hok : s.ok) (hs : s.small) : Jad s.cells ≤ 500000 := by
 have h1 : vsz s.fv ≤ 300 * s.facts.length + 2 := by
  have h := hok.fv
  have hf := hok.facts
  have hff := hs.facts
  revert h hf hff
  generalize s.facts = l
  generalize s.fv = x
  intro h hf hff
  cases h with
  | nils => exact Nat.le_trans (Nat.le_of_ble_eq_true rfl) (Nat.le_add_left 2 _)
  | sl l ex => have := Jee hf hff; show Jad (l.flatMap Fw.cells) + 1 ≤ _; omega
 have h2 := Jir hok.tree hs.tree
 have h3 := JgJ s.tree.cells [.bool s.inc, .str s.why, .int .i64 s.code, .str s.out, .str s.err]
 have h4 := hs.nodes
 have h5 := hs.len
 simp only [Sw.cells, Jad, vsz] at h3 ⊢
 omega
theorem Jpv {s : Sw} (hok : s.ok) (hs : s.small) : veq 1000000000 (.agg s.cells) (.agg s.cells) = true := Qi _ (by
 have := Jpu hok hs
 show Jad s.cells + 1 < _; omega)
variable [Memo] [NY] [NZ] [NO]
set_option maxHeartbeats 8000000 in
set_option maxRecDepth 100000 in
omit [NO] in
theorem Jpw (gl : Gl) (st : St) (s : Sw) (hok : s.ok) (hs : s.small) :
  Says Tryz.prog gl 10 [.agg s.cells] st (fun v st' => Jjw st.ctr s st' v ∧ Keep st st') := by
 refine Qa (NY.no _ rfl rfl rfl _ _) Tryz.func10 rfl (by kernel_rfl) fun R hR K gr gn => ?_
 generalize hfr : Jy gl [.agg s.cells] = fr
 have hF : Fs gl [(0, .agg s.cells)] fr := by subst hfr; simp [Fs]
 simp only [Fs] at hF
 clear hfr
 have ho := Sw.ones hok
 have kq := Qx st s.cells 28
 have cq := Jfh st s.cells 28
 have hb := Q6 st s.cells 28
 have hS := SwBox.new (st := st) (s := s)
 generalize Jau st s.cells 28 = q at kq hb hS cq
 have l7 := hS.ld.l
 obtain ⟨v, s1, hc, rfl, hk1⟩ := Says.use (Jp8 gl q s hok hs)
 have hmp := JdV (s := s)
 obtain ⟨M, hM⟩ : ∃ b, JcL s = b := ⟨_, rfl⟩
 rw [hM] at hc hmp
 have hQ : ∀ v st', (∃ (y : V) (ts : List S), v = .tup [y, .int .i64 ((cond M 0 4 : Nat) : Int)] ∧ ts.map S.toList = cond M (Jcn s) [] ∧ Mine st.ctr 9 st' y (ts.map .str)) → Jjw st.ctr s st' v := fun v st' h => by unfold Jjw; rw [hM]; exact h
 refine Ks_ (Ka_ (gs := [none, none, none]) fun K1 gK => ?_)
 simp (disch := omega) [hF, Ja, ho, hb]
 refine gK _ _ (Ks_ (Ks_ (Ka_ (gs := [none, none, none]) fun K1 gK => ?_)))
 simp (disch := omega) [hF, l7, hc]
 refine gK _ _ ?_
 cases M with
 | true =>
  refine Kf_ (by simp (disch := omega) []) ?_
  obtain ⟨hmf, hmt, hcd, hcd0⟩ := hmp rfl
  have hS1 := hS.keep hk1
  have hcode : 0 ≤ s.code ∧ s.code ≤ 255 := by
   cases hi : s.inc with
   | true => have := hcd0 hi; omega
   | false => exact hcd hi
  obtain ⟨nc, hnc⟩ := Int.eq_ofNat_of_zero_le hcode.1
  obtain ⟨qt, hqt⟩ : ∃ q : St, ({ ctr := s1.ctr + 9, box := s1.box } : St) = q := ⟨_, rfl⟩
  have kt : Keep s1 qt := by rw [← hqt]; exact Jca _ _
  have ct : qt.ctr = s1.ctr + 9 := by rw [← hqt]
  obtain ⟨v, s2, hcc, rfl, hk2⟩ := Says.use (Jm3 gl qt s hok)
  obtain ⟨v, s3, hci, ⟨it, rfl, hit⟩, hs3⟩ := Says.use (JhH gl s2 nc (by omega))
  rw [show s3 = s2 from hs3, ← hnc] at hci
  clear hs3
  have hk12 := kt.trans hk2
  have hS2 := hS1.keep hk12
  have lt7 := (hS1.keep kt).ld.l
  have lt4 := (hS1.keep kt).ld.l4
  have l24 := hS2.ld.l4
  have l27 := hS2.ld.l
  have hcn := JgQ (classN s)
  have hin : it.n ≤ 3 := by have := Jkp (n := nc) (by omega); rw [← S.len, hit]; omega
  have ad1 : ∀ kk, Jd Tryz.prog kk .add 9 (.str (S.ofList (QW (classN s)))) (.str (S.ofList [32])) = some (.str ((S.ofList (QW (classN s))).app (S.ofList [32]))) := fun kk => JA (by rw [Jf, Jf]; simp; omega)
  have ad2 : ∀ kk, Jd Tryz.prog kk .add 9 (.str ((S.ofList (QW (classN s))).app (S.ofList [32]))) (.str it) = some (.str (((S.ofList (QW (classN s))).app (S.ofList [32])).app it)) := fun kk => JA (by rw [QZ, Jf, Jf]; simp; omega)
  obtain ⟨hd, hhd⟩ : ∃ t, ((S.ofList (QW (classN s))).app (S.ofList [32])).app it = t := ⟨_, rfl⟩
  have hhdl : hd.toList = QW (classN s) ++ [32] ++ Jdw s.code.toNat := by rw [← hhd, S.toList_app, S.toList_app, S.toList_ofList, S.toList_ofList, hit, hnc]; rfl
  rw [hhd] at ad2
  obtain ⟨u1, hu1⟩ : ∃ u : St, u = { ctr := s2.ctr, box := s2.box.put (s1.ctr + 7) (.cells [.str hd] 9 true (some 0)) } := ⟨_, rfl⟩
  have ku1 : Keep s1 u1 := by rw [hu1]; exact hk12.put (by omega) _
  have cu1 : u1.ctr = s2.ctr := by rw [hu1]
  have gu1 : u1.box.get (s1.ctr + 7) = some (.cells [.str hd] 9 true (some 0)) := by rw [hu1]; simp [Tr.get_put]
  have hfu1 := hu1.symm
  clear hu1
  have c2 := hk12.ctr
  have c22 := hk2.ctr
  have c1 := hk1.ctr
  have hm1 := Jdf (lo := st.ctr + 1) (by omega) (by omega) gu1
  simp only [List.length_cons, List.length_nil] at hm1
  have kqu : Keep q u1 := hk1.trans ku1
  have vqs := Jpv hok hs
  have i2 := (hS1.keep ku1).ld.l2
  obtain ⟨IN, hIN⟩ : ∃ b, s.inc = b := ⟨_, rfl⟩
  rw [hIN] at i2
  refine Kk_ (Ks_ (Kj_ (b := [0, 1, 3, 0, 8, 27, 63, 127, 255]) (rs := [(0, 2), (3, 3), (2, 1), (6, 3)]) fun K1 gK => ?_))
  simp (disch := omega) [hF, gS4, vqs, hqt, lt7, lt4, l24, hcc, hci, ad1, ad2, bs1, hfu1, Jt, JN]
  refine gK _ _ (Ks_ (Ks_ (Ka_ (gs := [none, none]) fun K1 gK => ?_)))
  simp (disch := omega) [i2, gS2]
  refine gK _ _ ?_
  refine Km_ (fun fr st' => ∃ (o0 : V) (h : S), Fs gl [(1, .ptr st.ctr 0), (4, o0)] fr ∧ h.toList = JbI s ∧ Mine (st.ctr + 1) 9 st' o0 [.str h] ∧ Keep q st') ?_ ?_
  ·as_aux_lemma =>
   intro K1 gm1 go1
   cases IN with
   | true =>
    refine Kt_ (by simp (disch := omega) []) ?_
    have hwh := hs.why
    obtain ⟨v, s4, hcw, ⟨wt, rfl, hwt⟩, hs4⟩ := Says.use (JgL gl u1 s.why (by omega))
    rw [show s4 = u1 from hs4] at hcw
    clear hs4
    have hwn : wt.n ≤ 2000 := by
     have h1 := congrArg List.length hwt
     have h2 := QK s.why.toList
     rw [S.len] at h1
     rw [S.len] at h2
     omega
    have w3 := (hS1.keep ku1).ld.l3
    have ad3 : ∀ kk, Jd Tryz.prog kk .add 9 (.str (S.ofList [105, 110, 99, 111, 109, 112, 108, 101, 116, 101, 32])) (.str wt) = some (.str ((S.ofList [105, 110, 99, 111, 109, 112, 108, 101, 116, 101, 32]).app wt)) := fun kk => JA (by rw [Jf]; simp; omega)
    have hmn := Jih (lo := st.ctr + 1) (st := u1) (cs := [.str ((S.ofList [105, 110, 99, 111, 109, 112, 108, 101, 116, 101, 32]).app wt)]) (by omega)
    have hfold : ({ ctr := u1.ctr + 1, box := u1.box.put u1.ctr (.cells [.str ((S.ofList [105, 110, 99, 111, 109, 112, 108, 101, 116, 101, 32]).app wt)] 9 true (some 0)) } : St) = u1.new (.cells [.str ((S.ofList [105, 110, 99, 111, 109, 112, 108, 101, 116, 101, 32]).app wt)] 9 true (some 0)) := rfl
    simp only [List.length_cons, List.length_nil] at hmn
    refine Ka_ (gs := [none, none, none, none, none, none]) fun K1 gK => ?_
    simp (disch := omega) [hF, gS3, bs1, w3, hcw, ad3, hfold, Jt, JN]
    refine gK _ _ ?_
    exact gm1 _ _ ⟨.ms u1.ctr 0 1 1 (some 1), (S.ofList [105, 110, 99, 111, 109, 112, 108, 101, 116, 101, 32]).app wt, by simp [Fs, hF], by (rw [S.toList_app, S.toList_ofList, hwt]; simp [JbI, classN, hIN, QW]), hmn, kqu.new' _⟩
   | false =>
    refine Kf_ (by simp (disch := omega) []) (Kk_ ?_)
    exact gm1 _ _ ⟨.ms (s1.ctr + 7) 0 1 1 (some 1), hd, by simp [Fs, hF], by (rw [hhdl]; unfold JbI; rw [hIN]; rfl), hm1, kqu⟩
  ·as_aux_lemma =>
   clear hF
   rintro fr st' ⟨o0, h, hF, hhl, hm0, hkq⟩
   simp only [Fs] at hF
   obtain ⟨u2, hu2⟩ : ∃ u, u = st' := ⟨_, rfl⟩
   rw [← hu2] at hm0 hkq
   rw [← hu2]
   have hlen50 := hs.len
   have hS4 := hS.keep hkq
   obtain ⟨v, u3, hcf, ⟨yf, tf, rfl, htf, hmf4⟩, hk3⟩ := Says.use (JpU gl u2 s.fv s.facts hok.fv hok.facts hs.facts (by omega))
   rw [Jlo, Jbd.2 hmf, cond_true] at htf hcf
   have htfl : tf.length = s.facts.length := by
    have := congrArg List.length htf
    simpa [JeB hmf] using this
   have hfl : (Jcb s).length = tf.length := by have := congrArg List.length htf; simp at this; unfold Jcb; simp; omega
   have f0 := hS4.ld.l0
   have lyf := hmf4.len Tryz.underlying23
   rw [List.length_map] at lyf
   have hv0 : ∀ i, vid o0 i → st.ctr < i ∧ i < u2.ctr := fun i hi => by have := hm0.vid_lt hi; omega
   have ayf : Apart (vid o0) yf := hmf4.apart fun i hi => (hv0 i hi).2
   have vyf : Vw u3 yf tf := hmf4.vw
   have cu2 := hkq.ctr
   have c3 := hk3.ctr
   refine Ks_ (Ka_ (gs := [none, none, none, none, none, none, none, none]) fun K1 gK => ?_)
   simp (disch := omega) [hF, gS0, f0, hcf]
   refine gK _ _ (Ks_ (Ks_ (Ka_ (gs := [none]) fun K1 gK => ?_)))
   simp (disch := omega) []
   refine gK _ _ ?_
   refine Kl_ (tf.length) (fun i fr st' => ∃ (out : V) (ts : List S), Fs gl [(1, .ptr st.ctr 0), (4, out), (5, yf), (7, .int .i64 (i : Int))] fr ∧ i ≤ tf.length ∧ Mine (st.ctr + 1) 9 st' out (ts.map .str) ∧ Outs (vid o0) u3 st' ∧ (∀ j, vid out j → vid o0 j ∨ u3.ctr ≤ j) ∧ ts.map S.toList = JbI s :: ((Jcb s).take i).map (Jal [105, 102])) (0) (fun fr st' => ∃ (out : V) (ts : List S), Fs gl [(1, .ptr st.ctr 0), (4, out)] fr ∧ Mine (st.ctr + 1) 9 st' out (ts.map .str) ∧ Outs (vid o0) u3 st' ∧ (∀ j, vid out j → vid o0 j ∨ u3.ctr ≤ j) ∧ ts.map S.toList = JbI s :: (Jcb s).map (Jal [105, 102])) ?_ ?_ ?_ ?_
   ·exact ⟨o0, [h], by simp [Fs, hF], Nat.zero_le _, hm0.keep hk3, .refl _ _, fun j hj => .inl hj, by simp [hhl]⟩
   ·rintro i fr st' ⟨out, ts, _, hi, hmine, hO', hG', hts⟩
    omega
   ·as_aux_lemma =>
    clear hF
    rintro i fr st' ⟨out, ts, hF, hi, hmine, hO', hG', hts⟩ K2 gk2 gx2 go2
    simp only [Fs] at hF
    refine Ks_ (Ks_ (Ka_ (gs := [none, none, none, none]) fun K1 gK => ?_))
    simp (disch := omega) [hF, lyf]
    refine gK _ _ ?_
    by_cases hlt : i < tf.length
    ·
     refine Kt_ (by simp (disch := omega) [hlt]) ?_
     have vy' := vyf.out hO' ayf
     have hxi := vy'.ix Tryz.underlying23 z9 (k := .i64) (a := (i : Int)) (by omega) (by omega)
     have hxd := vy'.ld z9 a9 hlt
     have hlen' : ts.length ≤ 1 + i := by
      have := congrArg List.length hts
      simp at this; omega
     have htfi : tf[i].toList = (Jcb s)[i]'(by omega) := by
      have h1 := congrArg (fun l => l[i]?) htf
      simp only [List.getElem?_map, List.getElem?_eq_getElem hlt, Option.map_some] at h1
      have h2 : (Jcb s)[i]? = some tf[i].toList := by unfold Jcb; rw [List.getElem?_map, ← h1]
      rw [List.getElem?_eq_some_iff] at h2
      exact h2.2.symm
     have htn : tf[i].n ≤ 2000000 := by
      have := Jkq hmf hs.facts (by omega) (List.getElem_mem (show i < (Jcb s).length by omega))
      rw [← S.len, htfi]; omega
     have ad5 : ∀ kk, Jd Tryz.prog kk .add 9 (.str (S.ofList [32, 32, 105, 102, 32])) (.str tf[i]) = some (.str ((S.ofList [32, 32, 105, 102, 32]).app tf[i])) := fun kk => JA (by rw [Jf]; simp; omega)
     obtain ⟨u5, hu5⟩ : ∃ u, u = st'.new (.cells [.str ((S.ofList [32, 32, 105, 102, 32]).app tf[i])] 9 true (some 0)) := ⟨_, rfl⟩
     have ku5 : Keep st' u5 := by rw [hu5]; exact (Keep.refl st').new' _
     have cu5 : u5.ctr = st'.ctr + 1 := by rw [hu5]; rfl
     have gu5 : u5.box.get st'.ctr = some (.cells [.str ((S.ofList [32, 32, 105, 102, 32]).app tf[i])] 9 true (some 0)) := by rw [hu5, Js, if_pos rfl]
     have hfu5 : ({ ctr := st'.ctr + 1, box := st'.box.put st'.ctr (.cells [.str ((S.ofList [32, 32, 105, 102, 32]).app tf[i])] 9 true (some 0)) } : St) = u5 := by rw [hu5]; rfl
     clear hu5
     have cO' := hO'.ctr
     obtain ⟨z, u6, e6, low6, m6, v6, o6⟩ := JdR (hmine.keep ku5) ((Jdf (lo := 0) (by omega) (by omega) gu5).src rfl) (by omega) (by simp; omega)
     simp only [List.length_cons, List.length_nil] at e6
     have hO6 : Outs (vid out) st' u6 := ⟨by have := low6.ctr; omega, fun j hj hv => by rw [o6 j (by omega) hv, ku5.box j hj]⟩
     refine Kk_ (Ks_ ?_)
     refine Kb_ fun K3 gn3 gx3 go3 => ?_
     refine Ka_ (gs := [none, none, none, none, none, none, none, none, none]) fun K1 gK => ?_
     simp (disch := omega) [hF, bs1, hlt, hxi, hxd, ad5, bs1, hfu5, e6, Jt, JN, Tryz.underlying23]
     refine gK _ _ (gn3 _ _ (Ka_ (gs := [none, none, none]) fun K1 gK => ?_))
     simp (disch := omega) [hF]
     refine gK _ _ ?_
     refine gk2 (i + 1) _ _ (by omega) ⟨z, ts ++ [(S.ofList [32, 32, 105, 102, 32]).app tf[i]], by simp [Fs, hF], by omega, by simpa using m6, hO'.trans' hO6 hG', fun j hj => (v6 j hj).elim (hG' j) (fun h => .inr (by omega)), by (rw [List.map_append, hts, List.map_cons, List.map_nil, S.toList_app, S.toList_ofList, htfi, Jcx _ _ _ (show i < (Jcb s).length by omega)]; rfl)⟩
    ·
     refine Kf_ (by simp (disch := omega) [hlt]) ?_
     exact Kx_ (gx2 _ _ ⟨out, ts, by simp [Fs, hF, hlt], hmine, hO', hG', by (rw [hts, List.take_of_length_le (by omega)])⟩)
   ·as_aux_lemma =>
    clear hF
    rintro fr st' ⟨out, ts, hF, hmine, hO', hG', hts⟩
    simp only [Fs] at hF
    obtain ⟨u7, hu7⟩ : ∃ u, u = st' := ⟨_, rfl⟩
    rw [← hu7] at hmine hO'
    rw [← hu7]
    obtain ⟨o1, ho1⟩ : ∃ u, u = out := ⟨_, rfl⟩
    rw [← ho1] at hmine hG' hF
    obtain ⟨t1, ht1⟩ : ∃ u, u = ts := ⟨_, rfl⟩
    rw [← ht1] at hmine hts
    have kst2 : Keep st u2 := kq.trans hkq
    have cst2 := kst2.ctr
    have hS5 := hS4.keep hk3
    have hSk : ∀ {u : St}, Outs (vid o0) u3 u → SwBox u st.ctr s := fun h => ⟨by rw [h.box _ hS5.lt (fun hg => by have := (hv0 _ hg).1; omega)]; exact hS5.b, Nat.lt_of_lt_of_le hS5.lt h.ctr⟩
    have hS7 := hSk hO'
    have e0 := hS7.ld.l0
    have e1 := hS7.ld.l1
    have hnod := hs.nodes
    obtain ⟨v, u8, hcl, ⟨tl, htl, hml⟩, hk8⟩ := Says.use (Jl7 gl s.fv s.facts hok.fv hok.facts hs.facts (by omega) hmf hok.tree hs.tree (by omega) hmt u7 .nils [] .nils (by simp; omega) (fun s hs => by cases hs))
    have lyl := hml.len Tryz.underlying23
    rw [List.length_map] at lyl
    have htll : tl.length = (J9 s.facts s.tree []).length := by rw [← htl, List.length_map]
    have hlenL := Jb9 s.facts s.tree []
    have hv1 : ∀ i, vid o1 i → st.ctr < i ∧ i < u7.ctr := fun i hi => by have := hmine.vid_lt hi; omega
    have ayl : Apart (vid o1) v := hml.apart fun i hi => (hv1 i hi).2
    have vyl : Vw u8 v tl := hml.vw
    have cO7 := hO'.ctr
    have c8 := hk8.ctr
    have hlent1 : t1.length ≤ 60 := by
     have := congrArg List.length hts
     simp only [List.length_map, List.length_cons] at this
     omega
    refine Ks_ (Ka_ (gs := [none, none, none, none, none, none]) fun K1 gK => ?_)
    simp (disch := omega) [hF, gS0, gS1, e0, e1, hcl]
    refine gK _ _ (Ks_ (Ks_ (Ka_ (gs := [none]) fun K1 gK => ?_)))
    simp (disch := omega) []
    refine gK _ _ ?_
    refine Kl_ (tl.length) (fun i fr st' => ∃ (out : V) (ts : List S), Fs gl [(1, .ptr st.ctr 0), (4, out), (5, v), (8, .int .i64 (i : Int))] fr ∧ i ≤ tl.length ∧ Mine (st.ctr + 1) 9 st' out (ts.map .str) ∧ Outs (vid o1) u8 st' ∧ (∀ j, vid out j → vid o1 j ∨ u8.ctr ≤ j) ∧ ts.map S.toList = t1.map S.toList ++ ((J9 s.facts s.tree []).take i).map (Jal [116, 104, 101, 110])) (0) (fun fr st' => ∃ (out : V) (ts : List S), Fs gl [(1, .ptr st.ctr 0), (4, out)] fr ∧ Mine (st.ctr + 1) 9 st' out (ts.map .str) ∧ Outs (vid o1) u8 st' ∧ (∀ j, vid out j → vid o1 j ∨ u8.ctr ≤ j) ∧ ts.map S.toList = t1.map S.toList ++ (J9 s.facts s.tree []).map (Jal [116, 104, 101, 110])) ?_ ?_ ?_ ?_
    ·exact ⟨o1, t1, by simp [Fs, hF], Nat.zero_le _, hmine.keep hk8, .refl _ _, fun j hj => .inl hj, by simp⟩
    ·rintro i fr st' ⟨out, ts, _, hi, hmine2, hO2, hG2, hts2⟩
     omega
    ·as_aux_lemma =>
     clear hF
     rintro i fr st' ⟨out, ts, hF, hi, hmine2, hO2, hG2, hts2⟩ K4 gk4 gx4 go4
     simp only [Fs] at hF
     refine Ks_ (Ks_ (Ka_ (gs := [none, none, none, none]) fun K1 gK => ?_))
     simp (disch := omega) [hF, lyl]
     refine gK _ _ ?_
     by_cases hlt : i < tl.length
     ·
      refine Kt_ (by simp (disch := omega) [hlt]) ?_
      have vy' := vyl.out hO2 ayl
      have hxi := vy'.ix Tryz.underlying23 z9 (k := .i64) (a := (i : Int)) (by omega) (by omega)
      have hxd := vy'.ld z9 a9 hlt
      have hlen' : ts.length ≤ 60 + i := by
       have := congrArg List.length hts2
       simp at this; omega
      have htli : tl[i].toList = (J9 s.facts s.tree [])[i]'(by omega) := by
       have h1 := congrArg (fun l => l[i]?) htl
       simp only [List.getElem?_map, List.getElem?_eq_getElem hlt, Option.map_some] at h1
       rw [eq_comm, List.getElem?_eq_some_iff] at h1
       exact h1.2.symm
      have htn : tl[i].n ≤ 700000 := by
       have := Jjx hmf hs.facts (by omega) hs.tree hmt [] (by simp; omega) (fun s hs => by cases hs) _ (List.getElem_mem (show i < (J9 s.facts s.tree []).length by omega))
       rw [← S.len, htli]; exact this
      have ad5 : ∀ kk, Jd Tryz.prog kk .add 9 (.str (S.ofList [32, 32, 116, 104, 101, 110, 32])) (.str tl[i]) = some (.str ((S.ofList [32, 32, 116, 104, 101, 110, 32]).app tl[i])) := fun kk => JA (by rw [Jf]; simp; omega)
      obtain ⟨u5, hu5⟩ : ∃ u, u = st'.new (.cells [.str ((S.ofList [32, 32, 116, 104, 101, 110, 32]).app tl[i])] 9 true (some 0)) := ⟨_, rfl⟩
      have ku5 : Keep st' u5 := by rw [hu5]; exact (Keep.refl st').new' _
      have cu5 : u5.ctr = st'.ctr + 1 := by rw [hu5]; rfl
      have gu5 : u5.box.get st'.ctr = some (.cells [.str ((S.ofList [32, 32, 116, 104, 101, 110, 32]).app tl[i])] 9 true (some 0)) := by rw [hu5, Js, if_pos rfl]
      have hfu5 : ({ ctr := st'.ctr + 1, box := st'.box.put st'.ctr (.cells [.str ((S.ofList [32, 32, 116, 104, 101, 110, 32]).app tl[i])] 9 true (some 0)) } : St) = u5 := by rw [hu5]; rfl
      clear hu5
      have cO' := hO2.ctr
      obtain ⟨z, u6, e6, low6, m6, v6, o6⟩ := JdR (hmine2.keep ku5) ((Jdf (lo := 0) (by omega) (by omega) gu5).src rfl) (by omega) (by simp; omega)
      simp only [List.length_cons, List.length_nil] at e6
      have hO6 : Outs (vid out) st' u6 := ⟨by have := low6.ctr; omega, fun j hj hv => by rw [o6 j (by omega) hv, ku5.box j hj]⟩
      refine Kk_ (Ks_ ?_)
      refine Kb_ fun K5 gn5 gx5 go5 => ?_
      refine Ka_ (gs := [none, none, none, none, none, none, none, none, none]) fun K1 gK => ?_
      simp (disch := omega) [hF, bs1, hlt, hxi, hxd, ad5, bs1, hfu5, e6, Jt, JN, Tryz.underlying23]
      refine gK _ _ (gn5 _ _ (Ka_ (gs := [none, none, none]) fun K1 gK => ?_))
      simp (disch := omega) [hF]
      refine gK _ _ ?_
      refine gk4 (i + 1) _ _ (by omega) ⟨z, ts ++ [(S.ofList [32, 32, 116, 104, 101, 110, 32]).app tl[i]], by simp [Fs, hF], by omega, by simpa using m6, hO2.trans' hO6 hG2, fun j hj => (v6 j hj).elim (hG2 j) (fun h => .inr (by omega)), by (rw [List.map_append, hts2, List.map_cons, List.map_nil, S.toList_app, S.toList_ofList, htli, Jcx _ _ _ (show i < (J9 s.facts s.tree []).length by omega), List.append_assoc]; rfl)⟩
     ·
      refine Kf_ (by simp (disch := omega) [hlt]) ?_
      exact Kx_ (gx4 _ _ ⟨out, ts, by simp [Fs, hF, hlt], hmine2, hO2, hG2, by (rw [hts2, List.take_of_length_le (by omega)])⟩)
    ·as_aux_lemma =>
     clear hF
     rintro fr st' ⟨out, ts, hF, hmine2, hO2, hG2, hts2⟩
     simp only [Fs] at hF
     obtain ⟨w1, hw1⟩ : ∃ u, u = st' := ⟨_, rfl⟩
     rw [← hw1] at hmine2 hO2
     rw [← hw1]
     obtain ⟨o2, ho2⟩ : ∃ u, u = out := ⟨_, rfl⟩
     rw [← ho2] at hmine2 hG2 hF
     obtain ⟨t2, ht2⟩ : ∃ u, u = ts := ⟨_, rfl⟩
     rw [← ht2] at hmine2 hts2
     have hO17 : Outs (vid o0) u3 w1 := (hO'.ext hk8).trans' hO2 (fun j hj => (hG' j hj).elim .inl (fun h => .inr h))
     have hlt2 : t2.length ≤ 300 := by
      have := congrArg List.length hts2
      simp only [List.length_map, List.length_append] at this
      omega
     have hS8 := hSk hO17
     have lf5 := hS8.ld.l5
     have hse := Qw s.out
     obtain ⟨O0, hO0⟩ : ∃ b, decide (s.out.n = 0) = b := ⟨_, rfl⟩
     rw [hO0] at hse
     refine Ks_ (Ks_ (Ka_ (gs := [none, none, none]) fun K1 gK => ?_))
     simp (disch := omega) [hF, gS5, lf5, hse]
     refine gK _ _ ?_
     refine Km_ (fun fr st' => ∃ (out : V) (ts : List S), Fs gl [(1, .ptr st.ctr 0), (4, out)] fr ∧ Mine (st.ctr + 1) 9 st' out (ts.map .str) ∧ Outs (vid o0) u3 st' ∧ ts.map S.toList = t2.map S.toList ++ cond O0 [] [Jal [111, 117, 116] (esc s.out.toList)]) ?_ ?_
     ·as_aux_lemma =>
      intro K6 gm6 go6
      cases O0 with
      | true =>
       refine Kf_ (by simp (disch := omega) []) (Kk_ ?_)
       exact gm6 _ _ ⟨o2, t2, by simp [Fs, hF], hmine2, hO17, by simp⟩
      | false =>
       refine Kt_ (by simp (disch := omega) []) ?_
       have hon := hs.out
       obtain ⟨v, s9, hce, ⟨xt, rfl, hxt⟩, hs9⟩ := Says.use (JgL gl w1 s.out (by omega))
       rw [show s9 = w1 from hs9] at hce
       clear hs9
       have hxn : xt.n ≤ 6000 := by
        have h1 := congrArg List.length hxt
        have h2 := QK s.out.toList
        rw [S.len] at h1
        rw [S.len] at h2
        omega
       have ad6 : ∀ kk, Jd Tryz.prog kk .add 9 (.str (S.ofList [32, 32, 111, 117, 116, 32])) (.str xt) = some (.str ((S.ofList [32, 32, 111, 117, 116, 32]).app xt)) := fun kk => JA (by rw [Jf]; simp; omega)
       obtain ⟨u5, hu5⟩ : ∃ u, u = w1.new (.cells [.str ((S.ofList [32, 32, 111, 117, 116, 32]).app xt)] 9 true (some 0)) := ⟨_, rfl⟩
       have ku5 : Keep w1 u5 := by rw [hu5]; exact (Keep.refl w1).new' _
       have cu5 : u5.ctr = w1.ctr + 1 := by rw [hu5]; rfl
       have gu5 : u5.box.get w1.ctr = some (.cells [.str ((S.ofList [32, 32, 111, 117, 116, 32]).app xt)] 9 true (some 0)) := by rw [hu5, Js, if_pos rfl]
       have hfu5 : ({ ctr := w1.ctr + 1, box := w1.box.put w1.ctr (.cells [.str ((S.ofList [32, 32, 111, 117, 116, 32]).app xt)] 9 true (some 0)) } : St) = u5 := by rw [hu5]; rfl
       clear hu5
       have cO17 := hO17.ctr
       obtain ⟨z, u6, e6, low6, m6, v6, o6⟩ := JdR (hmine2.keep ku5) ((Jdf (lo := 0) (by omega) (by omega) gu5).src rfl) (by omega) (by simp; omega)
       simp only [List.length_cons, List.length_nil] at e6
       have hO6 : Outs (vid o2) w1 u6 := ⟨by have := low6.ctr; omega, fun j hj hv => by rw [o6 j (by omega) hv, ku5.box j hj]⟩
       refine Ka_ (gs := [none, none, none, none, none, none, none, none]) fun K1 gK => ?_
       simp (disch := omega) [hF, gS5, bs1, lf5, hce, ad6, bs1, hfu5, e6, Jt, JN, Tryz.underlying23]
       refine gK _ _ ?_
       exact gm6 _ _ ⟨z, t2 ++ [(S.ofList [32, 32, 111, 117, 116, 32]).app xt], by simp [Fs, hF], by simpa using m6, hO17.trans' hO6 (fun j hj => (hG2 j hj).elim (fun h => (hG' j h).elim .inl (fun h => .inr h)) (fun h => .inr (by omega))), by (rw [List.map_append, List.map_cons, List.map_nil, S.toList_app, S.toList_ofList, hxt]; rfl)⟩
     ·as_aux_lemma =>
      clear hF
      rintro fr st' ⟨out, ts, hF, hmine3, hO3, hts3⟩
      simp only [Fs] at hF
      obtain ⟨w2, hw2⟩ : ∃ u, u = st' := ⟨_, rfl⟩
      rw [← hw2] at hmine3 hO3
      rw [← hw2]
      obtain ⟨o3, ho3⟩ : ∃ u, u = out := ⟨_, rfl⟩
      rw [← ho3] at hmine3 hF
      obtain ⟨t3, ht3⟩ : ∃ u, u = ts := ⟨_, rfl⟩
      rw [← ht3] at hmine3 hts3
      have hlt3 : t3.length ≤ 301 := by
       have := congrArg List.length hts3
       rw [List.length_map, List.length_append, List.length_map] at this
       have : (cond O0 [] [Jal [111, 117, 116] (esc s.out.toList)]).length ≤ 1 := by cases O0 <;> simp
       omega
      have hS9 := hSk hO3
      have lf6 := hS9.ld.l6
      have hsx := Qw s.err
      obtain ⟨X0, hX0⟩ : ∃ b, decide (s.err.n = 0) = b := ⟨_, rfl⟩
      rw [hX0] at hsx
      have cO3 := hO3.ctr
      refine Ks_ (Ks_ (Ka_ (gs := [none, none, none]) fun K1 gK => ?_))
      simp (disch := omega) [hF, gS6, lf6, hsx]
      refine gK _ _ ?_
      refine Km_ (fun fr st' => ∃ (out : V) (ts : List S), Fs gl [(1, .ptr st.ctr 0), (4, out)] fr ∧ Mine (st.ctr + 1) 9 st' out (ts.map .str) ∧ (u3.ctr ≤ st'.ctr ∧ ∀ i, i ≤ st.ctr → st'.box.get i = w2.box.get i) ∧ ts.map S.toList = t3.map S.toList ++ cond X0 [] [Jal [101, 114, 114] (esc s.err.toList)]) ?_ ?_
      ·as_aux_lemma =>
       intro K7 gm7 go7
       cases X0 with
       | true =>
        refine Kf_ (by simp (disch := omega) []) (Kk_ ?_)
        exact gm7 _ _ ⟨o3, t3, by simp [Fs, hF], hmine3, ⟨cO3, fun _ _ => rfl⟩, by simp⟩
       | false =>
        refine Kt_ (by simp (disch := omega) []) ?_
        have hen := hs.err
        obtain ⟨v, s9, hce, ⟨xt, rfl, hxt⟩, hs9⟩ := Says.use (JgL gl w2 s.err (by omega))
        rw [show s9 = w2 from hs9] at hce
        clear hs9
        have hxn : xt.n ≤ 6000 := by
         have h1 := congrArg List.length hxt
         have h2 := QK s.err.toList
         rw [S.len] at h1
         rw [S.len] at h2
         omega
        have ad6 : ∀ kk, Jd Tryz.prog kk .add 9 (.str (S.ofList [32, 32, 101, 114, 114, 32])) (.str xt) = some (.str ((S.ofList [32, 32, 101, 114, 114, 32]).app xt)) := fun kk => JA (by rw [Jf]; simp; omega)
        obtain ⟨u5, hu5⟩ : ∃ u, u = w2.new (.cells [.str ((S.ofList [32, 32, 101, 114, 114, 32]).app xt)] 9 true (some 0)) := ⟨_, rfl⟩
        have ku5 : Keep w2 u5 := by rw [hu5]; exact (Keep.refl w2).new' _
        have cu5 : u5.ctr = w2.ctr + 1 := by rw [hu5]; rfl
        have gu5 : u5.box.get w2.ctr = some (.cells [.str ((S.ofList [32, 32, 101, 114, 114, 32]).app xt)] 9 true (some 0)) := by rw [hu5, Js, if_pos rfl]
        have hfu5 : ({ ctr := w2.ctr + 1, box := w2.box.put w2.ctr (.cells [.str ((S.ofList [32, 32, 101, 114, 114, 32]).app xt)] 9 true (some 0)) } : St) = u5 := by rw [hu5]; rfl
        clear hu5
        obtain ⟨z, u6, e6, low6, m6, v6, o6⟩ := JdR (hmine3.keep ku5) ((Jdf (lo := 0) (by omega) (by omega) gu5).src rfl) (by omega) (by simp; omega)
        simp only [List.length_cons, List.length_nil] at e6
        refine Ka_ (gs := [none, none, none, none, none, none, none, none]) fun K1 gK => ?_
        simp (disch := omega) [hF, gS6, bs1, lf6, hce, ad6, bs1, hfu5, e6, Jt, JN, Tryz.underlying23]
        refine gK _ _ ?_
        exact gm7 _ _ ⟨z, t3 ++ [(S.ofList [32, 32, 101, 114, 114, 32]).app xt], by simp [Fs, hF], by simpa using m6, ⟨by have := low6.ctr; omega, fun i hi => by rw [low6.box i (by omega), ku5.box i (by omega)]⟩, by (rw [List.map_append, List.map_cons, List.map_nil, S.toList_app, S.toList_ofList, hxt]; rfl)⟩
      ·as_aux_lemma =>
       clear hF
       rintro fr st' ⟨out, ts, hF, hmine4, hO4, hts4⟩
       simp only [Fs] at hF
       refine Ks_ (Ka_ (gs := [none, none, none]) fun K1 gK => ?_)
       simp (disch := omega) [hF]
       refine gK _ _ (Kq_ (gr _ _ ?_))
       simp [Jx, Tryz.f10, hF]
       refine hR _ _ ?_
       refine ⟨hQ _ _ ⟨out, ts, rfl, ?_, hmine4.low (by omega)⟩, ⟨by omega, fun i hi => ?_⟩⟩
       ·rw [hts4, hts3, hts2, hts]
        simp only [cond_true, Jcn, JhU, hO0, hX0, List.cons_append, List.append_assoc]
       ·rw [hO4.2 i (by omega), hO3.box i (by omega) (fun hg => by have := (hv0 _ hg).1; omega), hk3.box i (by omega)]
        exact kst2.box i hi
 | false =>
  refine Kt_ (by simp (disch := omega) []) (Ks_ (Ka_ (gs := [none, none]) fun K1 gK => ?_))
  simp (disch := omega) []
  refine gK _ _ (Kq_ (gr _ _ ?_))
  simp [Jx, Tryz.f10, hF]
  refine hR _ _ ?_
  exact ⟨hQ _ _ ⟨.nils, [], rfl, rfl, .nils⟩, kq.trans hk1⟩
end Go.Vm
