/- Nodes that are the same: by the document, by the program; how many nodes there are. -/
import Derived.Test.YtphinjijaglokaaGreatDoorSzO
import Derived.Test.YtphinjijaglokaaGreatDoorSzB
import Derived.Test.YtphinjijaglokaaGreatDoorSz0
import Derived.Test.YtphinjijaglokaaGreatDoorSzG
namespace Go.Vm
open Go Go.Proofs Go.Pa
attribute [local simp] OkP Qo OkS J0 OkG JX J2 OkD JH J1 Ju Jg Jh vop Ji Jp ev evs toV Jf Fr.dsTo Fr.glTo Fr.toNone Jc Jd Je JZ Qk Jb Jr Jj V.undef JG Jx JK JI JL JO JT JP JF JQ JU JM JJ JV Jo Jk Jl Js Jt Jn Jy Jz Jw J3
theorem JfV : ∀ (l m : List Nt), Jbr l m = Ja9 Jai l m
 | [], [] => rfl
 | [], _ :: _ => rfl
 | _ :: _, [] => rfl
 | a :: l, b :: m => by simp only [Jbr, Ja9, JfV l m]
theorem JfW (st : St) (a b : List V) : ∃ q : St, ({ ctr := st.ctr + 1 + 1, box := (st.box.put st.ctr (.cells a 25 true (some 0))).put (st.ctr + 1) (.cells b 25 true (some 0)) } : St) = q ∧ Keep st q ∧ NB q st.ctr a ∧ NB q (st.ctr + 1) b ∧ q.ctr = st.ctr + 2 := by
 refine ⟨_, rfl, ⟨by show st.ctr ≤ st.ctr + 1 + 1; omega, fun i hi => ?_⟩, ⟨?_, by show st.ctr < st.ctr + 1 + 1; omega⟩, ⟨?_, by show st.ctr + 1 < st.ctr + 1 + 1; omega⟩, rfl⟩
 ·simp only [Tr.get_put]; rw [if_neg (by omega), if_neg (by omega)]
 ·simp only [Tr.get_put]; rw [if_neg (by omega)]; simp
 ·simp only [Tr.get_put]; simp
variable [Memo] [NY]
def Jkv [Memo] (gl : Gl) (f : Nat) (t : Nt) : Prop := ∀ (st : St) (cs cs' : List V) (t' : Nt), NR st cs t → NR st cs' t' → t'.fit → Says Tryz.prog gl f [.agg cs, .agg cs'] st fun v st' => v = .bool (Jai t t') ∧ Keep st st'
set_option maxRecDepth 100000 in
theorem JmC (gl : Gl) (st : St) (x y : V) (a b : List S) (hx : Vw st x a) (hy : Vw st y b) (hal : a.length ≤ 900000) :
  Says Tryz.prog gl 36 [x, y] st (fun v st' => v = .bool (Ja9 S.same a b) ∧ Keep st st') := by
 refine Qh (NY.no _ rfl rfl rfl _ _) Tryz.func36 rfl (by kernel_rfl) fun R hR K gr gn => ?_
 generalize hfr : JB gl [x, y] = fr
 have hF : Fs gl [(0, x), (1, y)] fr := by subst hfr; simp [Fs]
 simp only [Fs] at hF
 clear hfr
 have la := hx.len Tryz.underlying22
 have lb := hy.len Tryz.underlying22
 obtain ⟨C, hC⟩ : ∃ b', decide (a.length = b.length) = b' := ⟨_, rfl⟩
 have eC : ∀ kk, Jv Tryz.prog kk .neq 3 (.int .i64 (a.length : Int)) (.int .i64 (b.length : Int)) = some (.bool (!C)) := fun kk => by rw [← hC]; exact JI
 refine Ks_ (Ka_ (gs := [none]) fun K1 gK => ?_)
 simp (disch := omega) []
 refine gK _ _ (Ks_ (Ks_ (Ka_ (gs := [none, none, none, none, none]) fun K1 gK => ?_)))
 simp (disch := omega) [hF, la, lb, eC]
 refine gK _ _ ?_
 cases C with
 | true =>
  refine Kf_ (by simp (disch := omega) []) ?_
  have hC := of_decide_eq_true hC
  refine Kk_ (Ks_ (Ks_ (Ka_ (gs := [none, none, none]) fun K1 gK => ?_)))
  simp (disch := omega) [hF, la]
  refine gK _ _ ?_
  refine Kl_ (a.length) (fun i fr st' => Fs gl [(0, x), (1, y), (12, .int .i64 (a.length : Int)), (13, .int .i64 (i : Int))] fr ∧ i ≤ a.length ∧ Jf6 S.same a b i ∧ Keep st st') (0) (fun fr st' => Fs gl [] fr ∧ Ja9 S.same a b = true ∧ Keep st st') ?_ ?_ ?_ ?_
  ·exact ⟨by simp [Fs, hF], Nat.zero_le _, Je1 _ _ _, .refl _⟩
  ·rintro i fr st' ⟨_, hi, hu, hk⟩
   omega
  ·as_aux_lemma =>
   clear hF
   rintro i fr st' ⟨hF, hi, hu, hk⟩ K6 gk6 gx6 go6
   simp only [Fs] at hF
   have gr6 := fun fr st h => go6 AE.ret fr st trivial (gr fr st h)
   refine Ks_ (Ka_ (gs := [none]) fun K1 gK => ?_)
   simp (disch := omega) [hF]
   refine gK _ _ (Ks_ ?_)
   by_cases hlt : i < a.length
   ·
    refine Kt_ (by simp (disch := omega) [hlt]) ?_
    have hlt' : i < b.length := by omega
    obtain ⟨q1, hq1, kq1, cq1⟩ := Jg7 st' 9
    have ka := hk.trans kq1
    have x1 := (hx.keep ka).ix Tryz.underlying22 z9 (k := .i64) (a := (i : Int)) (by omega) (by omega)
    have x2 := (hx.keep ka).ld z9 a9 hlt
    have x3 := (hy.keep ka).ix Tryz.underlying22 z9 (k := .i64) (a := (i : Int)) (by omega) (by omega)
    have x4 := (hy.keep ka).ld z9 a9 hlt'
    obtain ⟨E, hE⟩ : ∃ c, a[i].same b[i] = c := ⟨_, rfl⟩
    refine Kk_ (Ks_ ?_)
    refine Kb_ fun K7 gn7 gx7 go7 => ?_
    have gr7 := fun fr st h => go7 AE.ret fr st trivial (gr6 fr st h)
    refine Ks_ (Ka_ (gs := [none, none]) fun K1 gK => ?_)
    simp (disch := omega) [hF, hlt]
    refine gK _ _ (Ks_ (Kh_ (b := [0, 0, 3, 7, 0, 0, 48, 112, 255]) (gs := [none, none, none, none, none, none, none, none, none]) fun K1 gK => ?_))
    simp (disch := omega) [hF, hq1, x1, x2, x3, x4, hE]
    refine gK _ _ ?_
    cases E with
    | true =>
     refine Kf_ (by simp (disch := omega) []) (Kk_ (gn7 _ _ (Ka_ (gs := [none, none]) fun K1 gK => ?_)))
     simp (disch := omega) [hF]
     refine gK _ _ ?_
     refine gk6 (i + 1) _ _ (by omega) ⟨by simp [Fs, hF], by omega, Je2 hu hlt hlt' hE, ka⟩
    | false =>
     refine Kt_ (by simp (disch := omega) []) (Ks_ (Ka_ (gs := [none]) fun K1 gK => ?_))
     simp (disch := omega) []
     refine gK _ _ (Kq_ (gr7 _ _ ?_))
     simp [J7, Tryz.f36, hF]
     refine hR _ _ ?_
     exact ⟨by rw [Je3 hlt hlt' hE], ka⟩
   ·
    refine Kf_ (by simp (disch := omega) [hlt]) ?_
    exact Kx_ (gx6 _ _ ⟨by simp [Fs, hF, hlt], JdH hC hu (by omega), hk⟩)
  ·as_aux_lemma =>
   clear hF
   rintro fr st' ⟨hF, hu, hk⟩
   simp only [Fs] at hF
   refine Ks_ (Ka_ (gs := [none]) fun K1 gK => ?_)
   simp (disch := omega) []
   refine gK _ _ (Kq_ (gr _ _ ?_))
   simp [J7, Tryz.f36, hF]
   refine hR _ _ ?_
   exact ⟨by rw [hu], hk⟩
 | false =>
  refine Kt_ (by simp (disch := omega) []) (Ks_ (Ka_ (gs := [none]) fun K1 gK => ?_))
  simp (disch := omega) []
  refine gK _ _ (Kq_ (gr _ _ ?_))
  simp [J7, Tryz.f36, hF]
  refine hR _ _ ?_
  exact ⟨by rw [Je0 (p := S.same) (of_decide_eq_false hC)], .refl _⟩
set_option maxHeartbeats 4000000 in
set_option maxRecDepth 100000 in
theorem Jim (gl : Gl) (st : St) (kind : Nat) (text : S) (nv kv : V) (names : List S) (kids : List Nt) (css : List (List V)) (hn : Vw st nv names) (hkv : NRs st kv css kids) (hkl : kids.length ≤ 900000) (hnd : Qr kids ≤ 1000000000) (ih : ∀ t ∈ kids, ∀ (st : St) (cs : List V), NR st cs t → Says Tryz.prog gl 18 [.agg cs] st fun v st' => v = .int .i64 (t.nodes : Int) ∧ Keep st st') :
  Says Tryz.prog gl 18 [.agg [.int .u8 (kind : Int), .str text, nv, kv]] st (fun v st' => v = .int .i64 ((Nt.mk kind text names kids).nodes : Int) ∧ Keep st st') := by
 refine Qh (NY.no _ rfl rfl rfl _ _) Tryz.func18 rfl (by kernel_rfl) fun R hR K gr gn => ?_
 generalize hfr : JB gl [.agg [.int .u8 (kind : Int), .str text, nv, kv]] = fr
 have hF : Fs gl [(0, .agg [.int .u8 (kind : Int), .str text, nv, kv])] fr := by subst hfr; simp [Fs]
 simp only [Fs] at hF
 clear hfr
 have ho : ([.int .u8 (kind : Int), .str text, nv, kv] : List V).all Qb = true := by simp only [List.all_cons, hn.one, hkv.s.one]; rfl
 generalize hcs : ([.int .u8 (kind : Int), .str text, nv, kv] : List V) = cs at ho hF
 have kq := QQ st cs 25
 have hb := Jam st cs 25
 have hT := NB.new (st := st) (cs := cs)
 generalize Jbh st cs 25 = q at kq hb hT
 rw [← hcs] at hT
 have l3 := hT.ld.l3
 have lk := hkv.s.len Tryz.underlying23
 rw [hkv.l] at lk
 refine Ks_ (Ka_ (gs := [none, none]) fun K1 gK => ?_)
 simp (disch := omega) [hF, Ja, ho, hb]
 refine gK _ _ (Ks_ (Ka_ (gs := [none]) fun K1 gK => ?_))
 simp (disch := omega) []
 refine gK _ _ (Ks_ (Ks_ (Ka_ (gs := [none, none, none, none]) fun K1 gK => ?_)))
 simp (disch := omega) [gN3, l3, lk]
 refine gK _ _ ?_
 refine Kl_ (kids.length) (fun i fr st' => Fs gl [(3, .int .i64 ((1 + Qr (kids.take i) : Nat) : Int)), (7, kv), (8, .int .i64 (kids.length : Int)), (9, .int .i64 (i : Int))] fr ∧ i ≤ kids.length ∧ Keep q st') (0) (fun fr st' => Fs gl [(3, .int .i64 ((1 + Qr kids : Nat) : Int))] fr ∧ Keep q st') ?_ ?_ ?_ ?_
 ·exact ⟨by simp [Fs, hF, Qr],  Nat.zero_le _, .refl _⟩
 ·rintro i fr st' ⟨_, hi, hk⟩
  omega
 ·as_aux_lemma =>
  clear hF
  rintro i fr st' ⟨hF, hi, hk⟩ K8 gk8 gx8 go8
  simp only [Fs] at hF
  refine Ks_ (Ka_ (gs := [none]) fun K1 gK => ?_)
  simp (disch := omega) [hF]
  refine gK _ _ (Ks_ ?_)
  by_cases hlt : i < kids.length
  ·
   refine Kt_ (by simp (disch := omega) [hlt]) ?_
   have ha := hkv.keep (kq.trans hk)
   have hls : i < css.length := by rw [hkv.l]; exact hlt
   have x1 := ha.s.ix Tryz.underlying23 Jci (k := .i64) (a := (i : Int)) (by omega) (by omega)
   have x2 := ha.s.ld Jci Jgx hls
   have hr := ha.r i hls hlt
   have hcl := hr.len
   have hco := hr.ones
   have kw := QQ st' [.int .u8 0, .str ⟨0, 0⟩, .nils, .nils] 25
   have ew := Jam st' [.int .u8 0, .str ⟨0, 0⟩, .nils, .nils] 25
   have bw := JcA st' [.int .u8 0, .str ⟨0, 0⟩, .nils, .nils] 25
   have cw := JdB st' [.int .u8 0, .str ⟨0, 0⟩, .nils, .nils] 25
   generalize Jbh st' [.int .u8 0, .str ⟨0, 0⟩, .nils, .nils] 25 = w at kw ew bw cw
   obtain ⟨w2, hw, bw2, ow⟩ := Jjr bw rfl hcl hco
   have kw2 : Keep st' w2 := ⟨by have := ow.ctr; omega, fun j hj => by rw [ow.box j (by omega), kw.box j hj]⟩
   have l5 := Ja3 bw2 hcl
   obtain ⟨v, s1, hc1, rfl, hk1⟩ := Says.use (ih _ (List.getElem_mem hlt) w2 _ (hr.keep kw2))
   have htk1 := Jbu kids i hlt
   have htk2 := JbH kids (i + 1)
   obtain ⟨m, hm⟩ : ∃ m, Qr (kids.take i) = m := ⟨_, rfl⟩
   obtain ⟨m', hm'⟩ : ∃ m, kids[i].nodes = m := ⟨_, rfl⟩
   rw [hm] at hF htk1
   rw [hm'] at hc1 htk1
   have o1 : Qb (V.int IntKind.u8 0) = true := rfl
   refine Kk_ (Ks_ ?_)
   refine Kb_ fun K9 gn9 gx9 go9 => ?_
   refine Ks_ (Ka_ (gs := [none, none, none, none]) fun K1 gK => ?_)
   simp (disch := omega) [hF, Ja, hlt, x1, x2, Jeg, Ja, Ja4, Ja5, o1, ew, hw]
   refine gK _ _ (Ka_ (gs := [none, none, none, none, none]) fun K1 gK => ?_)
   simp (disch := omega) [hF, l5, hc1]
   refine gK _ _ (gn9 _ _ (Ka_ (gs := [none, none]) fun K1 gK => ?_))
   simp (disch := omega) [hF]
   refine gK _ _ ?_
   refine gk8 (i + 1) _ _ (by omega) ⟨by rw [htk1]; simp [Fs, hF]; omega,  by omega, hk.trans (kw2.trans hk1)⟩
  ·
   refine Kf_ (by simp (disch := omega) [hlt]) ?_
   exact Kx_ (gx8 _ _ ⟨by rw [List.take_of_length_le (show kids.length ≤ i by omega)] at hF; simp [Fs, hF],  hk⟩)
 ·as_aux_lemma =>
  clear hF
  rintro fr st' ⟨hF, hk⟩
  simp only [Fs] at hF
  refine Ks_ (Ka_ (gs := [none, none]) fun K1 gK => ?_)
  simp (disch := omega) [hF]
  refine gK _ _ (Kq_ (gr _ _ ?_))
  simp [J7, Tryz.f18, hF]
  refine hR _ _ ?_
  exact ⟨by simp only [Nt.nodes]; congr 1; omega, kq.trans hk⟩
end Go.Vm
namespace Go.Vm
open Go Go.Proofs Go.Pa
attribute [local simp] OkP Qo OkS J0 OkG JX J2 OkD JH J1 Ju Jg Jh vop Ji Jp ev evs toV Jf Fr.dsTo Fr.glTo Fr.toNone Jc Jd Je JZ Qk Jb Jr Jj V.undef JG Jx JK JI JL JO JT JP JF JQ JU JM JJ JV Jo Jk Jl Js Jt Jn Jy Jz Jw J3
theorem Jmn (st : St) {cs : List V} (hl : cs.length = 4) (ho : cs.all Qb = true) : ∃ w w2 : St, ({ ctr := st.ctr + 1, box := st.box.put st.ctr (.cells [.int .u8 0, .str ⟨0, 0⟩, .nils, .nils] 25 true (some 0)) } : St) = w ∧ Jak Tryz.prog w 25 (.ptr st.ctr 0) (.agg cs) = some w2 ∧ w2.box.get st.ctr = some (.cells cs 25 true (some 0)) ∧ Keep st w2 ∧ st.ctr < w2.ctr := by
 have kw := QQ st [.int .u8 0, .str ⟨0, 0⟩, .nils, .nils] 25
 have bw := JcA st [.int .u8 0, .str ⟨0, 0⟩, .nils, .nils] 25
 have cw := JdB st [.int .u8 0, .str ⟨0, 0⟩, .nils, .nils] 25
 obtain ⟨w2, hw, bw2, ow⟩ := Jjr bw rfl hl ho
 exact ⟨_, w2, Jam st _ 25, hw, bw2, ⟨by have := ow.ctr; omega, fun j hj => by rw [ow.box j (by omega), kw.box j hj]⟩, by have := ow.ctr; omega⟩
theorem o1 : Qb (V.int IntKind.u8 0) = true := rfl
variable [Memo] [NY]
theorem Jkw (gl : Gl) : ∀ t : Nt, t.fit → t.nodes ≤ 1000000000 → ∀ (st : St) (cs : List V), NR st cs t → Says Tryz.prog gl 18 [.agg cs] st fun v st' => v = .int .i64 (t.nodes : Int) ∧ Keep st st' := Nt.ind fun kind text names kids ih hf hnd st cs h => by
 cases hf with
 | mk _ _ _ _ ht hnl hkl hns hks =>
 cases h with
 | mk kind text nv kv names kids css hk hn hs hl hz hr =>
  simp only [Nt.nodes] at hnd
  exact Jim gl st kind text nv kv names kids css hn ⟨hs, hl, hr⟩ hkl (by omega) fun t ht => ih t ht (hks t ht) (by have := Jha ht; omega)
set_option maxHeartbeats 4000000 in
set_option maxRecDepth 100000 in
theorem JmD (gl : Gl) (st : St) (kv kv' : V) (css css' : List (List V)) (kids kids' : List Nt) (hkv : NRs st kv css kids) (hkv' : NRs st kv' css' kids') (hkl : kids.length ≤ 900000) (hf' : ∀ t ∈ kids', t.fit) (ih : ∀ t ∈ kids, Jkv gl 17 t) :
  Says Tryz.prog gl 37 [kv, kv', .fn 17 [] []] st (fun v st' => v = .bool (Ja9 Jai kids kids') ∧ Keep st st') := by
 refine Qh (NY.no _ rfl rfl rfl _ _) Tryz.func37 rfl (by kernel_rfl) fun R hR K gr gn => ?_
 generalize hfr : JB gl [kv, kv', .fn 17 [] []] = fr
 have hF : Fs gl [(0, kv), (1, kv'), (2, .fn 17 [] [])] fr := by subst hfr; simp [Fs]
 simp only [Fs] at hF
 clear hfr
 have lk := hkv.s.len Tryz.underlying23
 have lk' := hkv'.s.len Tryz.underlying23
 rw [hkv.l] at lk
 rw [hkv'.l] at lk'
 obtain ⟨C, hC⟩ : ∃ b', decide (kids.length = kids'.length) = b' := ⟨_, rfl⟩
 have eC : ∀ kk, Jv Tryz.prog kk .neq 3 (.int .i64 (kids.length : Int)) (.int .i64 (kids'.length : Int)) = some (.bool (!C)) := fun kk => by rw [← hC]; exact JI
 refine Ks_ (Ka_ (gs := [none]) fun K1 gK => ?_)
 simp (disch := omega) []
 refine gK _ _ (Ks_ (Ks_ (Ka_ (gs := [none, none, none, none, none]) fun K1 gK => ?_)))
 simp (disch := omega) [hF, lk, lk', eC]
 refine gK _ _ ?_
 cases C with
 | true =>
  refine Kf_ (by simp (disch := omega) []) ?_
  have hC := of_decide_eq_true hC
  refine Kk_ (Ks_ (Ks_ (Ka_ (gs := [none, none, none]) fun K1 gK => ?_)))
  simp (disch := omega) [hF, lk]
  refine gK _ _ ?_
  refine Kl_ (kids.length) (fun i fr st' => Fs gl [(1, kv'), (2, .fn 17 [] []), (15, kv), (16, .int .i64 (kids.length : Int)), (17, .int .i64 (i : Int))] fr ∧ i ≤ kids.length ∧ Jf6 Jai kids kids' i ∧ Keep st st') (0) (fun fr st' => Fs gl [] fr ∧ Ja9 Jai kids kids' = true ∧ Keep st st') ?_ ?_ ?_ ?_
  ·exact ⟨by simp [Fs, hF], Nat.zero_le _, Je1 _ _ _, .refl _⟩
  ·rintro i fr st' ⟨_, hi, hu, hk⟩
   omega
  ·as_aux_lemma =>
   clear hF
   rintro i fr st' ⟨hF, hi, hu, hk⟩ K1 gk1 gx1 go1
   simp only [Fs] at hF
   have gr1 := fun fr st h => go1 AE.ret fr st trivial (gr fr st h)
   refine Ks_ (Ka_ (gs := [none]) fun K1 gK => ?_)
   simp (disch := omega) [hF]
   refine gK _ _ (Ks_ ?_)
   by_cases hlt : i < kids.length
   ·
    refine Kt_ (by simp (disch := omega) [hlt]) ?_
    have hlt' : i < kids'.length := by omega
    have ha := hkv.keep hk
    have hls : i < css.length := by rw [hkv.l]; exact hlt
    have hls' : i < css'.length := by rw [hkv'.l]; exact hlt'
    have x1 := ha.s.ix Tryz.underlying23 Jci (k := .i64) (a := (i : Int)) (by omega) (by omega)
    have x2 := ha.s.ld Jci Jgx hls
    have hr := ha.r i hls hlt
    obtain ⟨w, w2, ew, hw, bw2, kw2, cw2⟩ := Jmn st' hr.len hr.ones
    have ha' := hkv'.keep (hk.trans kw2)
    have x3 := ha'.s.ix Tryz.underlying23 Jci (k := .i64) (a := (i : Int)) (by omega) (by omega)
    have x4 := ha'.s.ld Jci Jgx hls'
    have hr' := ha'.r i hls' hlt'
    obtain ⟨y, y2, ey, hy, by2, ky2, cy2⟩ := Jmn w2 hr'.len hr'.ones
    have l5 := Ja3 ((ky2.box st'.ctr cw2).trans bw2) hr.len
    have l6 := Ja3 by2 hr'.len
    obtain ⟨v, s1, hc1, rfl, hk1⟩ := Says.use (ih _ (List.getElem_mem hlt) y2 _ _ _ ((hr.keep kw2).keep ky2) (hr'.keep ky2) (hf' _ (List.getElem_mem hlt')))
    obtain ⟨E, hE⟩ : ∃ b, Jai kids[i] kids'[i] = b := ⟨_, rfl⟩
    rw [hE] at hc1
    refine Kk_ (Ks_ ?_)
    refine Kb_ fun K2 gn2 gx2 go2 => ?_
    have gr2 := fun fr st h => go2 AE.ret fr st trivial (gr1 fr st h)
    refine Ks_ (Ka_ (gs := [none, none, none, none, none, none]) fun K1 gK => ?_)
    simp (disch := omega) [hF, hlt, x1, x2, Jeg, Ja, Ja4, Ja5, o1, ew, hw]
    refine gK _ _ (Ks_ (Ka_ (gs := [none, none, none, none, none, none]) fun K1 gK => ?_))
    simp (disch := omega) [hF, x3, x4, Jeg, Ja, Ja4, Ja5, o1, ey, hy]
    refine gK _ _ (Ks_ (Ka_ (gs := [none, none, none, none, none]) fun K1 gK => ?_))
    simp (disch := omega) [hF, l5, l6, hc1]
    refine gK _ _ ?_
    cases E with
    | true =>
     refine Kf_ (by simp (disch := omega) []) (Kk_ (gn2 _ _ (Ka_ (gs := [none, none]) fun K1 gK => ?_)))
     simp (disch := omega) [hF]
     refine gK _ _ ?_
     refine gk1 (i + 1) _ _ (by omega) ⟨by simp [Fs, hF], by omega, Je2 hu hlt hlt' hE, hk.trans (kw2.trans (ky2.trans hk1))⟩
    | false =>
     refine Kt_ (by simp (disch := omega) []) (Ks_ (Ka_ (gs := [none]) fun K1 gK => ?_))
     simp (disch := omega) []
     refine gK _ _ (Kq_ (gr2 _ _ ?_))
     simp [J7, Tryz.f37, hF]
     refine hR _ _ ?_
     exact ⟨by rw [Je3 hlt hlt' hE], hk.trans (kw2.trans (ky2.trans hk1))⟩
   ·
    refine Kf_ (by simp (disch := omega) [hlt]) ?_
    exact Kx_ (gx1 _ _ ⟨by simp [Fs, hF, hlt], JdH hC hu (by omega), hk⟩)
  ·as_aux_lemma =>
   clear hF
   rintro fr st' ⟨hF, hu, hk⟩
   simp only [Fs] at hF
   refine Ks_ (Ka_ (gs := [none]) fun K1 gK => ?_)
   simp (disch := omega) []
   refine gK _ _ (Kq_ (gr _ _ ?_))
   simp [J7, Tryz.f37, hF]
   refine hR _ _ ?_
   exact ⟨by rw [hu], hk⟩
 | false =>
  refine Kt_ (by simp (disch := omega) []) (Ks_ (Ka_ (gs := [none]) fun K1 gK => ?_))
  simp (disch := omega) []
  refine gK _ _ (Kq_ (gr _ _ ?_))
  simp [J7, Tryz.f37, hF]
  refine hR _ _ ?_
  exact ⟨by rw [Je0 (p := Jai) (of_decide_eq_false hC)], .refl _⟩
set_option maxHeartbeats 4000000 in
set_option maxRecDepth 100000 in
theorem Jin (gl : Gl) (st : St) (kind : Nat) (text : S) (nv kv : V) (names : List S) (kids : List Nt) (css : List (List V)) (kind' : Nat) (text' : S) (nv' kv' : V) (names' : List S) (kids' : List Nt) (css' : List (List V)) (hn : Vw st nv names) (hn' : Vw st nv' names') (hkv : NRs st kv css kids) (hkv' : NRs st kv' css' kids') (hnl : names.length ≤ 900000) (hkl : kids.length ≤ 900000) (hf' : ∀ t ∈ kids', t.fit) (ih : ∀ t ∈ kids, Jkv gl 17 t) :
  Says Tryz.prog gl 17 [.agg [.int .u8 (kind : Int), .str text, nv, kv], .agg [.int .u8 (kind' : Int), .str text', nv', kv']] st (fun v st' => v = .bool (Jai (.mk kind text names kids) (.mk kind' text' names' kids')) ∧ Keep st st') := by
 refine Qh (NY.no _ rfl rfl rfl _ _) Tryz.func17 rfl (by kernel_rfl) fun R hR K gr gn => ?_
 generalize hfr : JB gl [.agg [.int .u8 (kind : Int), .str text, nv, kv], .agg [.int .u8 (kind' : Int), .str text', nv', kv']] = fr
 have hF : Fs gl [(0, .agg [.int .u8 (kind : Int), .str text, nv, kv]), (1, .agg [.int .u8 (kind' : Int), .str text', nv', kv'])] fr := by subst hfr; simp [Fs]
 simp only [Fs] at hF
 clear hfr
 have ho : ([.int .u8 (kind : Int), .str text, nv, kv] : List V).all Qb = true := by simp only [List.all_cons, hn.one, hkv.s.one]; rfl
 have ho' : ([.int .u8 (kind' : Int), .str text', nv', kv'] : List V).all Qb = true := by simp only [List.all_cons, hn'.one, hkv'.s.one]; rfl
 generalize hcs : ([.int .u8 (kind : Int), .str text, nv, kv] : List V) = cs at ho hF
 generalize hcs' : ([.int .u8 (kind' : Int), .str text', nv', kv'] : List V) = cs' at ho' hF
 obtain ⟨q, hb, kq, hT, hT', cq⟩ := JfW st cs cs'
 rw [← hcs] at hT
 rw [← hcs'] at hT'
 obtain ⟨l0, l1, l2, l3, _⟩ := hT.ld
 obtain ⟨m0, m1, m2, m3, _⟩ := hT'.ld
 obtain ⟨v, s1, hc1, rfl, hk1⟩ := Says.use (JmC gl q nv nv' names names' (hn.keep kq) (hn'.keep kq) hnl)
 have n3 := (hT.keep hk1).ld.l3
 have o3 := (hT'.keep hk1).ld.l3
 obtain ⟨v, s2, hc2, rfl, hk2⟩ := Says.use (JmD gl s1 kv kv' css css' kids kids' (hkv.keep (kq.trans hk1)) (hkv'.keep (kq.trans hk1)) hkl hf' ih)
 simp only [Jai, JfV] at hR
 obtain ⟨A, hA⟩ : ∃ b, decide (kind = kind') = b := ⟨_, rfl⟩
 obtain ⟨B, hB⟩ : ∃ b, text.same text' = b := ⟨_, rfl⟩
 obtain ⟨C, hC⟩ : ∃ b, Ja9 S.same names names' = b := ⟨_, rfl⟩
 obtain ⟨D, hD⟩ : ∃ b, Ja9 Jai kids kids' = b := ⟨_, rfl⟩
 have eA : ∀ kk, Jv Tryz.prog kk .eql 5 (.int .u8 (kind : Int)) (.int .u8 (kind' : Int)) = some (.bool A) := fun kk => by rw [← hA]; exact JK
 rw [hC] at hc1
 rw [hD] at hc2
 rw [hA, hB, hC, hD] at hR
 refine Ks_ (Ka_ (gs := [none, none, none]) fun K1 gK => ?_)
 simp (disch := omega) [hF, Ja, ho, ho', hb]
 refine gK _ _ (Ks_ (Ka_ (gs := [none, none, none, none, none, none, some (some 10, true), some (some 10, true), some (some 10, true), some (some 10, true), some (some 10, true), none, none, some (some 17, true), some (some 17, true), some (some 17, true), some (some 17, true), some (some 17, true), none, none, some (some 24, true), some (some 24, true), some (some 24, true), some (some 24, true), some (some 24, true), none, none]) fun K1 gK => ?_))
 refine OkG.cutK 13 (fun fr st' => Fs gl [(2, .ptr st.ctr 0), (3, .ptr (st.ctr + 1) 0), (17, .bool (A && B))] fr ∧ q = st') (by kernel_rfl) ?_ ?_
 ·as_aux_lemma =>
  intro Kc gKc
  simp only [List.take]
  cases A with
  | true =>
   simp (disch := omega) [gN0, gN1, l0, l1, m0, m1, eA, hB]
   exact gKc _ _ ⟨by simp [Fs, hF], rfl⟩
  | false =>
   simp (disch := omega) [gN0, l0, m0, eA]
   exact gKc _ _ ⟨by simp [Fs, hF], rfl⟩
 ·as_aux_lemma =>
  clear hF
  rintro fr st' ⟨hF, rfl⟩
  simp only [Fs] at hF
  simp only [List.drop]
  obtain ⟨X, hX⟩ : ∃ b, (A && B) = b := ⟨_, rfl⟩
  rw [hX] at hF
  have hABX : (A && (B && (C && D))) = (X && (C && D)) := by rw [← hX, Bool.and_assoc]
  rw [hABX] at hR
  cases X with
  | true =>
   cases C with
   | true =>
    simp (disch := omega) [hF, gN2, gN3, l2, m2, hc1, n3, o3, hc2]
    refine gK _ _ (Kq_ (gr _ _ ?_))
    simp [J7, Tryz.f17, hF]
    refine hR _ _ ?_
    exact ⟨rfl, kq.trans (hk1.trans hk2)⟩
   | false =>
    simp (disch := omega) [hF, gN2, l2, m2, hc1]
    refine gK _ _ (Kq_ (gr _ _ ?_))
    simp [J7, Tryz.f17, hF]
    refine hR _ _ ?_
    exact ⟨rfl, kq.trans hk1⟩
  | false =>
   simp (disch := omega) [hF]
   refine gK _ _ (Kq_ (gr _ _ ?_))
   simp [J7, Tryz.f17, hF]
   refine hR _ _ ?_
   exact ⟨rfl, kq⟩
theorem Jkx (gl : Gl) : ∀ t : Nt, t.fit → Jkv gl 17 t := Nt.ind fun kind text names kids ih hf st cs cs' t' h h' hf' => by
 cases hf with
 | mk _ _ _ _ ht hnl hkl hns hks =>
 cases h with
 | mk kind text nv kv names kids css hk hn hs hl hz hr =>
 cases h' with
 | mk kind' text' nv' kv' names' kids' css' hk' hn' hs' hl' hz' hr' =>
 cases hf' with
 | mk _ _ _ _ ht' hnl' hkl' hns' hks' => exact Jin gl st kind text nv kv names kids css kind' text' nv' kv' names' kids' css' hn hn' ⟨hs, hl, hr⟩ ⟨hs', hl', hr'⟩ hnl hkl hks' fun t ht => ih t ht (hks t ht)
end Go.Vm
namespace Go.Vm
open Go Go.Proofs Go.RowKit Go.Pa
set_option maxRecDepth 100000
theorem JeQ : ∀ (css : List (List V)) (kids : List Nt), css.length = kids.length → (∀ i (h : i < css.length) (h' : i < kids.length), kids[i].mass ≤ vtots css[i]) → Jao kids ≤ vtots css.flatten
 | [], [], _, _ => by simp [Jao]
 | [], _ :: _, h, _ => by simp at h
 | _ :: _, [], h, _ => by simp at h
 | c :: css, t :: kids, h, hm => by
  have h1 := hm 0 (by simp) (by simp)
  have h2 := JeQ css kids (by simpa using h) fun i a b => hm (i + 1) (by simpa using a) (by simpa using b)
  simp only [List.getElem_cons_zero] at h1
  rw [List.flatten_cons, Jbg, Jao]; omega
theorem JeR : ∀ l : List S, JcM l ≤ vtots (l.flatMap sC)
 | [] => by simp [JcM]
 | s :: l => by
  have := JeR l
  have h1 : vtots (sC s) = s.n + 1 := by simp [sC, vtots, Jb4]
  rw [List.flatMap_cons, Jbg, JcM]; omega
theorem JfX {α : Type} {p : α → Nt → Prop} : ∀ l : List α, (∀ a ∈ l, ∃ t, p a t) → ∃ ts : List Nt, ts.length = l.length ∧ ∀ i (h : i < l.length) (h' : i < ts.length), p l[i] ts[i]
 | [], _ => ⟨[], rfl, fun i h => by simp at h⟩
 | a :: l, h => by
  obtain ⟨t, ht⟩ := h a (by simp)
  obtain ⟨ts, h1, h2⟩ := JfX l fun b hb => h b (by simp [hb])
  refine ⟨t :: ts, by simp [h1], fun i a b => ?_⟩
  cases i with
  | zero => exact ht
  | succ i => exact h2 i (by simpa using a) (by simpa using b)
def Jky (vs : List V) (t : Nt) : Prop := (∀ st, NR st vs t) ∧ t.mass ≤ vtots vs
theorem node_of : ∀ (n : Nat) {vs : List V}, Shp Tryz.prog n 25 vs → vtots vs ≤ 60000000 → ∃ t : Nt, Jky vs t := by
 intro n
 induction n using Nat.strongRecOn with
 | ind n ih =>
 intro vs h hv
 cases n with
 | zero => exact h.elim
 | succ n =>
  simp only [Shp, Tryz.underlying25] at h
  obtain ⟨ls, rfl, hlen, hf⟩ := h
  match ls, hlen, hf with
  | [l0, l1, l2, l3], _, hf =>
   have h0 := hf 0 _ l0 rfl rfl
   have h1 := hf 1 _ l1 rfl rfl
   have h2 := hf 2 _ l2 rfl rfl
   have h3 := hf 3 _ l3 rfl rfl
   obtain ⟨nv, names, rfl, hn⟩ := JlQ h2
   cases n with
   | zero => exact h0.elim
   | succ n =>
    obtain ⟨kv, css, rfl, hk, hks⟩ := JkN (f := id) (Q := fun l => Shp Tryz.prog n 25 l) Tryz.underlying23 h3 (fun l hl => ⟨l, rfl, hl⟩)
    simp only [Shp] at h0 h1
    obtain ⟨i, rfl, hi⟩ := h0
    obtain ⟨text, rfl, _⟩ := h1
    obtain ⟨k, rfl, hk2⟩ := Jnb hi
    have hv2 : Jb4 nv + Jb4 kv ≤ 60000000 ∧ text.n + 2 + (Jb4 nv + Jb4 kv) ≤ vtots ([[V.int .u8 (k : Int)], [V.str text], [nv], [kv]] : List (List V)).flatten := by
     simp only [List.flatten_cons, List.flatten_nil, List.append_nil, List.cons_append, List.nil_append, vtots, Jb4] at hv ⊢
     omega
    have hfl : css.flatMap id = css.flatten := by simp [List.flatMap_def]
    have hkt : vtots css.flatten + 1 ≤ Jb4 kv + 1 := by
     cases hk with
     | nils => simp [vtots]
     | sl l ex => rw [← hfl]; simp [Jb4]
    have hnt : JcM names ≤ Jb4 nv := by
     have := JeR names
     cases hn with
     | nils => simp [JcM]
     | sl l ex => simp only [Jb4]; omega
    have hmem : ∀ l ∈ css, vtots l ≤ vtots css.flatten := fun l hl => by
     have := Jf8 (f := id) hl
     rwa [hfl] at this
    obtain ⟨kids, hl, hkn⟩ := JfX (p := fun l t => Jky l t) css fun l hl => ih n (by omega) (hks l hl) (by have := hmem l hl; omega)
    have hm := JeQ css kids hl.symm fun i h h' => (hkn i h h').2
    have hz4 : Rz 4 css := fun c hc => by
     obtain ⟨i, hi, rfl⟩ := List.getElem_of_mem hc
     exact ((hkn i hi (by omega)).1 ⟨0, .nil⟩).len
    have q1 := JgG nv
    have q2 := JgG kv
    refine ⟨.mk k text names kids, fun st => ?_, ?_⟩
    ·refine .mk k text nv kv names kids css hk2 (hn.vw st) ?_ hl.symm ⟨by omega, by omega⟩ fun i h h' => (hkn i h h').1 st
     cases hk with
     | nils => exact .nils
     | sl l ex => rw [hfl]; exact .sl css ex hz4
    ·simp only [Nt.mass]; omega
abbrev sTs : List TypeId := [25, 22, 23, 5, 9]
theorem sts_ok : okT Tryz.prog sTs = true := by kernel_rfl
end Go.Vm
