/- A command's text: by the document. -/
import Derived.Test.YtlmmgpmioaecnaaGreatDoorSz09
namespace Go.Vm
open Go Go.Proofs Go.Sy
set_option maxRecDepth 100000
attribute [local simp] OkP Jbg OkS Q0 OkG Ql QG OkD Qf J8 JT Jj Jo vop Js Jy ev evs toV Jn Fr.dsTo Fr.glTo Fr.toNone Jk Jl Jm J6 Qe Jc Jz Jw V.undef JU JO Qn Qo Qt Qp Qu Qv JN Qw Qx Qy J7 Qz Ji Jt JG Jq JI Jp JX J2 Jv JM JP JS JK
theorem eqk (k c : Nat) {b : Bool} (h : decide (k = c) = b) : ∀ kk, Je Tryz.prog kk .eql 5 (.int .u8 (k : Int)) (.int .u8 (c : Int)) = some (.bool b) := fun kk => by rw [Qn, h]
theorem JgP {sep : List UInt8} {ts : List S} (h : ts.length = 2) : J1 sep (ts.map S.toList) = ts[0].toList ++ (sep ++ ts[1].toList) := by
 match ts, h with
 | [a, b], _ => simp [J1]
theorem JoR {w : Ww} (h : w.ok) (hf : wFit w.l) : vsz w.x < 1000 := by
 have h1 := hf.1
 obtain ⟨x, a, l⟩ := w
 simp only [Ww.ok] at h h1
 show vsz x < 1000
 cases h with
 | nils => simp [vsz]
 | sl l ex =>
  have := Jir l
  unfold Jaa at this
  simp only [vsz, this]
  omega
theorem Tx.of {st : St} {out : V} {ts : List S} {k lo : Nat} {kids : List Cw} (hm : Mine lo 9 st out (ts.map .str)) (hts : ts.map S.toList = Jab k 0 kids) (hl : kids.length ≤ 300) (hfit : ∀ c ∈ kids, Fit c) (hsz : JbQ kids ≤ 450) : Tx st out ts := by
 have htl : ts.length = kids.length := by
  have := congrArg List.length hts
  rwa [List.length_map, JaI] at this
 have htot := Jde k kids 0 fun c hc => JdY (hfit c hc)
 refine ⟨hm.vw, by omega, fun s hs => ?_⟩
 have h1 : s.toList ∈ Jab k 0 kids := by rw [← hts]; exact List.mem_map.2 ⟨s, hs, rfl⟩
 have h2 := Jg6 h1
 rw [S.len] at h2
 omega
variable [Memo] [NY] [NO]
set_option maxHeartbeats 16000000 in
set_option maxRecDepth 100000 in
omit [NO] in
theorem Jlu (gl : Gl) (st : St) (k : Nat) (a : Int) (nm : S) (wv : V) (ws : List Ww) (kv : V) (kids : List Cw) (hw : Row Ww.cells wv ws) (hwok : ∀ w ∈ ws, w.ok) (hn : nm.n ≤ 300) (hwl : ws.length ≤ 300) (hwf : ∀ w ∈ ws, wFit w.l) (hz0 : (J1 [32] ((ws.map Ww.l).map wTxt)).length ≤ 500000) (hwz : vsz wv < 10000000) (_hkz : vsz kv < 10000000) (hkv : Row Cw.cells kv kids) (_hok : ∀ c ∈ kids, c.ok) (hfit : ∀ c ∈ kids, Fit c) (hl : kids.length ≤ 300) (hsz : JbQ kids ≤ 450) (ih : ∀ c ∈ kids, JdB gl 20 c) (hB : JcJ k kids.length nm ws = true) :
  Says Tryz.prog gl 20 [.agg [.int .u8 (k : Int), .int .i64 a, .str nm, wv, kv]] st (fun v st' => (∃ z : S, v = .str z ∧ z.toList = JaL k nm (ws.map Ww.l) (Jab k 0 kids)) ∧ Keep st st') := by
 refine Qb (NY.no _ rfl rfl rfl _ _) Tryz.func20 rfl (by kernel_rfl) fun R hR K gr gn => ?_
 generalize hfr : JC gl [.agg [.int .u8 (k : Int), .int .i64 a, .str nm, wv, kv]] = fr
 have hF : Fs gl [(0, .agg [.int .u8 (k : Int), .int .i64 a, .str nm, wv, kv])] fr := by subst hfr; simp [Fs]
 simp only [Fs] at hF
 clear hfr
 have hlen : ∀ c ∈ kids, (txC c).length ≤ 450000 := fun c hc => by
  have h1 := JdY (hfit c hc)
  have h2 := Jbu hc
  omega
 have ho := Jge (k := k) (a := a) (nm := nm) hw.one hkv.one
 have kq := JL st [.int .u8 (k : Int), .int .i64 a, .str nm, wv, kv] 25
 have hb := JZ st [.int .u8 (k : Int), .int .i64 a, .str nm, wv, kv] 25
 have hC := CB.new (st := st) (k := k) (a := a) (nm := nm) (wv := wv) (kv := kv)
 generalize QM st [.int .u8 (k : Int), .int .i64 a, .str nm, wv, kv] 25 = q0 at kq hb hC
 have lk := hkv.len Tryz.underlying23
 refine Ks_ (Ka_ (gs := [none, none]) fun K1 gK => ?_)
 simp (disch := omega) [hF, hb, ho]
 refine gK _ _ (Ks_ (Ka_ (gs := [none]) fun K1 gK => ?_))
 simp (disch := omega) []
 refine gK _ _ (Ks_ (Ks_ (Ka_ (gs := [none]) fun K1 gK => ?_)))
 simp (disch := omega) []
 refine gK _ _ ?_
 refine Kl_ (kids.length) (fun i fr st' => ∃ (out : V) (ts : List S), Fs gl [(1, .ptr st.ctr 0), (3, out), (4, .int .i64 (i : Int))] fr ∧ i ≤ kids.length ∧ Keep q0 st' ∧ Mine q0.ctr 9 st' out (ts.map .str) ∧ ts.map S.toList = Jab k 0 (kids.take i)) (0) (fun fr st' => ∃ (out : V) (ts : List S), Fs gl [(1, .ptr st.ctr 0), (3, out)] fr ∧ Keep q0 st' ∧ Mine q0.ctr 9 st' out (ts.map .str) ∧ ts.map S.toList = Jab k 0 kids) ?_ ?_ ?_ ?_
 ·exact ⟨.nils, [], by simp [Fs, hF], Nat.zero_le _, .refl _, .nils, rfl⟩
 ·rintro i fr st' ⟨out, ts, _, hi, hk, hm, hts⟩
  omega
 ·as_aux_lemma =>
  clear hF
  rintro i fr st' ⟨out, ts, hF, hi, hk, hm, hts⟩ K1 gk1 gx1 go1
  simp only [Fs] at hF
  have l4 := (hC.keep hk).ld.l4
  refine Ks_ (Ks_ (Ka_ (gs := [none, none, none, none, none]) fun K1 gK => ?_))
  simp (disch := omega) [hF, cg4, lk, l4]
  refine gK _ _ ?_
  by_cases hlt : i < kids.length
  ·
   refine Kt_ (by simp (disch := omega) [hlt]) ?_
   have hmem := List.getElem_mem hlt
   have lcm := (hC.keep hk).ld.l
   obtain ⟨v, s1, hc, ⟨w, rfl, hw1⟩, k1⟩ := Says.use (Jgx gl st' k a nm wv kv kids i hkv hw.one hlt (hlen _ hmem) (ih _ hmem))
   obtain ⟨u, hu⟩ : ∃ q, q = s1.new (.cells [.str w] 9 true (some 0)) := ⟨_, rfl⟩
   have ku : Keep s1 u := by rw [hu]; exact (Keep.refl s1).new' _
   have cu : u.ctr = s1.ctr + 1 := by rw [hu]; rfl
   have gu : u.box.get s1.ctr = some (.cells [.str w] 9 true (some 0)) := by rw [hu, Q9, if_pos rfl]
   have hfu : ({ ctr := s1.ctr + 1, box := s1.box.put s1.ctr (.cells [.str w] 9 true (some 0)) } : St) = u := by rw [hu]; rfl
   clear hu
   have hku := hk.trans (k1.trans ku)
   have hkc := hk.ctr
   have hkuc := hku.ctr
   have htl : ts.length = i := by
    have := congrArg List.length hts
    rw [List.length_map, JaI, List.length_take, Nat.min_eq_left hi] at this
    exact this
   obtain ⟨y, s4, e4, low4, m4, _⟩ := JfL (hm.keep (k1.trans ku)) ((JgI (lo := 0) (by omega) (by omega) gu).src rfl) (by omega) (by simp; omega)
   simp only [List.length_cons, List.length_nil] at e4
   refine Kk_ (Ks_ ?_)
   refine Kb_ fun K2 gn2 gx2 go2 => ?_
   refine Ka_ (gs := [none, none, none, none, none, none, none]) fun K1 gK => ?_
   simp (disch := omega) [hF, hlt, lcm, hc, bs1, hfu, e4, Jx, Ju]
   refine gK _ _ (gn2 _ _ (Ka_ (gs := [none, none, none]) fun K1 gK => ?_))
   simp (disch := omega) [hF]
   refine gK _ _ ?_
   refine gk1 (i + 1) _ _ (by omega) ⟨y, ts ++ [w], by simp [Fs, hF], by omega, Low.keep low4 hku (by omega), by simpa using m4, by (rw [List.map_append, hts, JdD k hlt, List.map_cons, hw1]; rfl)⟩
  ·
   refine Kf_ (by simp (disch := omega) [hlt]) ?_
   exact Kx_ (gx1 _ _ ⟨out, ts, by simp [Fs, hF, hlt], hk, hm, by (rw [hts, List.take_of_length_le (by omega)])⟩)
 ·as_aux_lemma =>
  clear hF
  rintro fr st' ⟨out, ts, hF, hk, hm, hts⟩
  simp only [Fs] at hF
  have hx := Tx.of hm hts hl hfit hsz
  have htl : ts.length = kids.length := by
   have := congrArg List.length hts
   rwa [List.length_map, JaI] at this
  rw [← htl] at hB
  have hl2 : (ts.map S.toList).length = ts.length := List.length_map ..
  rw [← hts] at hR
  clear ih hfit hlen hts htl lk hl2
  have hCk := hC.keep hk
  have d0 := hCk.ld.l0
  have d2 := hCk.ld.l2
  have d3 := hCk.ld.l3
  have lts := hx.v.len Tryz.underlying31
  have hcs := JeF hB
  refine Ks_ (Ks_ (Ka_ (gs := [none, none]) fun K1 gK => ?_))
  simp (disch := omega) [hF, cg0, d0]
  refine gK _ _ ?_
  by_cases hk1 : k = 1
  ·
   have hp : (nm.n ≠ 0 → 0 < ws.length) := by
    subst hk1
    rcases hcs with ⟨h, q⟩ | ⟨h, q⟩ | ⟨h, q⟩ | ⟨h, q⟩ | ⟨h, q⟩ | ⟨h, q, q2⟩ | ⟨h, q⟩ | ⟨h, q⟩ | ⟨h, q, q2⟩
    all_goals first | (exfalso; omega) | exact q | exact ⟨q, q2⟩
   have e1 := eqk k 1 (b := true) (by subst hk1; rfl)
   simp only [Int.cast_ofNat_Int] at e1
   have hne : ∀ kk, Je Tryz.prog kk .neq 9 (.str nm) (.str (S.ofList [])) = some (.bool (!decide (nm.n = 0))) := fun kk => by rw [Jt, JiT]
   obtain ⟨E, hE⟩ : ∃ b, decide (nm.n = 0) = b := ⟨_, rfl⟩
   rw [hE] at hne
   refine Kb_ fun K3 gn3 gx3 go3 => ?_
   have gr3 := fun fr st h => go3 AE.ret fr st trivial (gr fr st h)
   refine Ks_ (Ka_ (gs := [none, none]) fun K1 gK => ?_)
   simp (disch := omega) [e1]
   refine gK _ _ (Kt_ (by simp (disch := omega) []) (Ks_ (Ks_ (Ka_ (gs := [none, none, none]) fun K1 gK => ?_))))
   simp (disch := omega) [hF, cg2, d2, hne]
   refine gK _ _ ?_
   cases E with
   | true =>
    refine Kf_ (by simp (disch := omega) []) ?_
    have hn0 : nm.n = 0 := of_decide_eq_true hE
    obtain ⟨v, s1, hc, ⟨z, rfl, hz⟩, k1⟩ := Says.use (JdC gl st' wv _ _ (hw.wsr hwok st') (WsS.of hwl hwf))
    refine Kk_ (Ks_ (Ka_ (gs := [none, none, none, none]) fun K1 gK => ?_))
    simp (disch := omega) [hF, cg3, d3, hc]
    refine gK _ _ (Kq_ (gr3 _ _ ?_))
    simp [JW, Tryz.f20, hF]
    refine hR _ _ ?_
    exact ⟨⟨z, rfl, by rw [hz]; unfold JaL; rw [if_pos hk1, if_pos hn0]⟩, kq.trans (hk.trans k1)⟩
   | false =>
    refine Kt_ (by simp (disch := omega) []) ?_
    have hn0 : nm.n ≠ 0 := of_decide_eq_false hE
    have hwp := hp hn0
    have hm0 := List.getElem_mem hwp
    have hf0 := hwf _ hm0
    obtain ⟨qt, hqt, kt, hqc⟩ := Jb0 st' 10
    have d2t := (hCk.keep kt).ld.l2
    have d3t := (hCk.keep kt).ld.l3
    obtain ⟨rr, hi1⟩ := hw.get (fun w _ => w.len2) Tryz.underlying22 z41 hwp
    have hi1 : Jd Tryz.prog 22 wv (.int .i64 0) = some (.cp (ws[0].cells ++ rr)) := hi1 .i64
    have lw := JcW ws[0] rr
    generalize ws[0].cells ++ rr = wr at hi1 lw
    obtain ⟨v, s1, hc, ⟨y, b, rfl, hmz⟩, k1⟩ := Says.use (Jnv gl qt nm (.agg ws[0].cells) ws[0].l ((Ww.wv (hwok _ hm0) st').keep kt) (by have := hf0.1; omega) (by omega) (fun p hp => by have := hf0.2 p hp; omega))
    have vq := Jag wv (by omega)
    have b22 := Jo6 (a := b) (hmz.vp (l := Jbv (nm.app (S.ofList [61])) ws[0].l) rfl)
    have oy : ([y, .int .i64 b] : List V).all Ju = true := by simp only [List.all_cons, hmz.one]; rfl
    have k1c := k1.ctr
    obtain ⟨s2, hr⟩ : ∃ s, ({ ctr := s1.ctr, box := s1.box.put (st'.ctr + 7) (.cells [y, .int .i64 b] 41 true (some 0)) } : St) = s := ⟨_, rfl⟩
    have br : s2.box.get (st'.ctr + 7) = some (.cells [y, .int .i64 b] 41 true (some 0)) := by rw [← hr]; simp only [Tr.get_put, if_true]
    have bx2 : ∀ i, i ≠ st'.ctr + 7 → s2.box.get i = s1.box.get i := fun i hi => by rw [← hr]; simp only [Tr.get_put, if_neg hi]
    have cr : s2.ctr = s1.ctr := by rw [← hr]
    have kr : Keep st' s2 := ⟨by have := kt.ctr; omega, fun i hi => (bx2 i (by omega)).trans ((kt.trans k1).box i hi)⟩
    have hv : Vp s2 y (Jbv (nm.app (S.ofList [61])) ws[0].l) := (hmz.stab (st' := s2) (by omega) fun i hi => bx2 i (by have := (hmz.vid_lt hi).1; omega)).vp rfl
    obtain ⟨v, s3, hc3, ⟨z, rfl, hz⟩, k3⟩ := Says.use (JdC gl s2 _ _ _ (WsR.one (by omega) br hv) (WsS.asg hn hf0))
    have vqc : veq 1000000000 (.agg ws[0].cells) (.agg ws[0].cells) = true := by
     have h1 := JoR (hwok _ hm0) hf0
     exact Jag _ (by simp only [Ww.cells, vsz, Jbb]; omega)
    refine Ks_ (Kh_ (b := [0, 1, 0, 4, 12, 28, 63, 127, 255, 511]) (gs := [none, none, none, none, none, none, none, none, none, none]) fun K1 gK => ?_)
    simp (disch := omega) [hF, cg2, cg3, hqt, d2t, d3t, hi1, lw, vq, vqc, hc, b22, oy, hr, hc3, Jx]
    refine gK _ _ (Kq_ (gr3 _ _ ?_))
    simp [JW, Tryz.f20, hF]
    refine hR _ _ ?_
    refine ⟨⟨z, rfl, ?_⟩, kq.trans (hk.trans (kr.trans k3))⟩
    rw [hz]
    unfold JaL
    rw [if_pos hk1, if_neg hn0]
    have : (ws.map Ww.l).headD [] = ws[0].l := by cases ws with
     | nil => simp at hwp
     | cons w r => rfl
    rw [this]
    simp [J1]
  ·
   by_cases hk2 : k = 2
   ·
    have hp : 0 < ts.length := by
     subst hk2
     rcases hcs with ⟨h, q⟩ | ⟨h, q⟩ | ⟨h, q⟩ | ⟨h, q⟩ | ⟨h, q⟩ | ⟨h, q, q2⟩ | ⟨h, q⟩ | ⟨h, q⟩ | ⟨h, q, q2⟩
     all_goals first | (exfalso; omega) | exact q | exact ⟨q, q2⟩
    have e1 := eqk k 1 (b := false) (by subst hk2; rfl)
    simp only [Int.cast_ofNat_Int] at e1
    have e2 := eqk k 2 (b := true) (by subst hk2; rfl)
    simp only [Int.cast_ofNat_Int] at e2
    obtain ⟨ad0, i0, l0, n0⟩ := hx.at (show 0 < ts.length by omega)
    have i0 : Jd Tryz.prog 31 out (.int .i64 0) = some ad0 := i0
    have la0 := l0 st' (.refl _)
    obtain ⟨z1, a1', t1, m1⟩ := QE (P := Tryz.prog) (T := 9) (S.ofList [33, 32]) ts[0] (by (try rw [Jb]); (try simp only [List.length_cons, List.length_nil]); omega)
    rw [Jb] at m1
    simp only [List.length_cons, List.length_nil] at m1
    refine Kb_ fun K4 gn4 gx4 go4 => ?_
    have gr4 := fun fr st h => go4 AE.ret fr st trivial (gr fr st h)
    refine Ks_ (Ka_ (gs := [none, none]) fun K1 gK => ?_)
    simp (disch := omega) [e1]
    refine gK _ _ (Kf_ (by simp (disch := omega) []) (Ks_ (Ka_ (gs := [none, none]) fun K1 gK => ?_)))
    simp (disch := omega) [e2]
    refine gK _ _ (Kt_ (by simp (disch := omega) []) (Ks_ (Ka_ (gs := [none, none, none, none, none]) fun K1 gK => ?_)))
    simp (disch := omega) [hF, i0, la0, a1']
    refine gK _ _ (Kq_ (gr4 _ _ ?_))
    simp [JW, Tryz.f20, hF]
    refine hR _ _ ?_
    refine ⟨⟨z1, rfl, ?_⟩, kq.trans hk⟩
    unfold JaL
    rw [if_neg (by omega), if_pos hk2]
    rw [t1, S.toList_ofList, QY (show 0 < ts.length by omega)]
   ·
    by_cases hk3 : k = 3
    ·
     have hp : ts.length = 2 := by
      subst hk3
      rcases hcs with ⟨h, q⟩ | ⟨h, q⟩ | ⟨h, q⟩ | ⟨h, q⟩ | ⟨h, q⟩ | ⟨h, q, q2⟩ | ⟨h, q⟩ | ⟨h, q⟩ | ⟨h, q, q2⟩
      all_goals first | (exfalso; omega) | exact q | exact ⟨q, q2⟩
     have e1 := eqk k 1 (b := false) (by subst hk3; rfl)
     simp only [Int.cast_ofNat_Int] at e1
     have e2 := eqk k 2 (b := false) (by subst hk3; rfl)
     simp only [Int.cast_ofNat_Int] at e2
     have e3 := eqk k 3 (b := true) (by subst hk3; rfl)
     simp only [Int.cast_ofNat_Int] at e3
     obtain ⟨ad0, i0, l0, n0⟩ := hx.at (show 0 < ts.length by omega)
     have i0 : Jd Tryz.prog 31 out (.int .i64 0) = some ad0 := i0
     have la0 := l0 st' (.refl _)
     obtain ⟨ad1, i1, l1, n1⟩ := hx.at (show 1 < ts.length by omega)
     have i1 : Jd Tryz.prog 31 out (.int .i64 1) = some ad1 := i1
     have la1 := l1 st' (.refl _)
     obtain ⟨qt, hqt, kt, _⟩ := Jb0 st' 9
     have lb0 := l0 qt kt
     have lb1 := l1 qt kt
     obtain ⟨z1, a1', t1, m1⟩ := QE (P := Tryz.prog) (T := 9) ts[0] (S.ofList [32, 38, 38, 32]) (by (try rw [Jb]); (try simp only [List.length_cons, List.length_nil]); omega)
     rw [Jb] at m1
     simp only [List.length_cons, List.length_nil] at m1
     obtain ⟨z2, a2', t2, m2⟩ := QE (P := Tryz.prog) (T := 9) z1 ts[1] (by (try rw [Jb]); (try simp only [List.length_cons, List.length_nil]); omega)
     refine Kb_ fun K5 gn5 gx5 go5 => ?_
     have gr5 := fun fr st h => go5 AE.ret fr st trivial (gr fr st h)
     refine Ks_ (Ka_ (gs := [none, none]) fun K1 gK => ?_)
     simp (disch := omega) [e1]
     refine gK _ _ (Kf_ (by simp (disch := omega) []) (Ks_ (Ka_ (gs := [none, none]) fun K1 gK => ?_)))
     simp (disch := omega) [e2]
     refine gK _ _ (Kf_ (by simp (disch := omega) []) (Ks_ (Ka_ (gs := [none, none]) fun K1 gK => ?_)))
     simp (disch := omega) [e3]
     refine gK _ _ (Kt_ (by simp (disch := omega) []) (Ks_ (Kh_ (b := [0, 1, 3, 7, 0, 16, 48, 127, 255]) (gs := [none, none, none, none, none, none, none, none, none]) fun K1 gK => ?_)))
     simp (disch := omega) [hF, hqt, i0, i1, lb0, lb1, a1', a2']
     refine gK _ _ (Kq_ (gr5 _ _ ?_))
     simp [JW, Tryz.f20, hF]
     refine hR _ _ ?_
     refine ⟨⟨z2, rfl, ?_⟩, kq.trans (hk.trans kt)⟩
     unfold JaL
     rw [if_neg (by omega), if_neg (by omega), if_pos hk3]
     rw [JgP hp, t2, t1, S.toList_ofList]
     simp only [List.append_assoc]
    ·
     by_cases hk4 : k = 4
     ·
      have hp : ts.length = 2 := by
       subst hk4
       rcases hcs with ⟨h, q⟩ | ⟨h, q⟩ | ⟨h, q⟩ | ⟨h, q⟩ | ⟨h, q⟩ | ⟨h, q, q2⟩ | ⟨h, q⟩ | ⟨h, q⟩ | ⟨h, q, q2⟩
       all_goals first | (exfalso; omega) | exact q | exact ⟨q, q2⟩
      have e1 := eqk k 1 (b := false) (by subst hk4; rfl)
      simp only [Int.cast_ofNat_Int] at e1
      have e2 := eqk k 2 (b := false) (by subst hk4; rfl)
      simp only [Int.cast_ofNat_Int] at e2
      have e3 := eqk k 3 (b := false) (by subst hk4; rfl)
      simp only [Int.cast_ofNat_Int] at e3
      have e4 := eqk k 4 (b := true) (by subst hk4; rfl)
      simp only [Int.cast_ofNat_Int] at e4
      obtain ⟨ad0, i0, l0, n0⟩ := hx.at (show 0 < ts.length by omega)
      have i0 : Jd Tryz.prog 31 out (.int .i64 0) = some ad0 := i0
      have la0 := l0 st' (.refl _)
      obtain ⟨ad1, i1, l1, n1⟩ := hx.at (show 1 < ts.length by omega)
      have i1 : Jd Tryz.prog 31 out (.int .i64 1) = some ad1 := i1
      have la1 := l1 st' (.refl _)
      obtain ⟨qt, hqt, kt, _⟩ := Jb0 st' 9
      have lb0 := l0 qt kt
      have lb1 := l1 qt kt
      obtain ⟨z1, a1', t1, m1⟩ := QE (P := Tryz.prog) (T := 9) ts[0] (S.ofList [32, 124, 124, 32]) (by (try rw [Jb]); (try simp only [List.length_cons, List.length_nil]); omega)
      rw [Jb] at m1
      simp only [List.length_cons, List.length_nil] at m1
      obtain ⟨z2, a2', t2, m2⟩ := QE (P := Tryz.prog) (T := 9) z1 ts[1] (by (try rw [Jb]); (try simp only [List.length_cons, List.length_nil]); omega)
      refine Kb_ fun K6 gn6 gx6 go6 => ?_
      have gr6 := fun fr st h => go6 AE.ret fr st trivial (gr fr st h)
      refine Ks_ (Ka_ (gs := [none, none]) fun K1 gK => ?_)
      simp (disch := omega) [e1]
      refine gK _ _ (Kf_ (by simp (disch := omega) []) (Ks_ (Ka_ (gs := [none, none]) fun K1 gK => ?_)))
      simp (disch := omega) [e2]
      refine gK _ _ (Kf_ (by simp (disch := omega) []) (Ks_ (Ka_ (gs := [none, none]) fun K1 gK => ?_)))
      simp (disch := omega) [e3]
      refine gK _ _ (Kf_ (by simp (disch := omega) []) (Ks_ (Ka_ (gs := [none, none]) fun K1 gK => ?_)))
      simp (disch := omega) [e4]
      refine gK _ _ (Kt_ (by simp (disch := omega) []) (Ks_ (Kh_ (b := [0, 1, 3, 7, 0, 16, 48, 127, 255]) (gs := [none, none, none, none, none, none, none, none, none]) fun K1 gK => ?_)))
      simp (disch := omega) [hF, hqt, i0, i1, lb0, lb1, a1', a2']
      refine gK _ _ (Kq_ (gr6 _ _ ?_))
      simp [JW, Tryz.f20, hF]
      refine hR _ _ ?_
      refine ⟨⟨z2, rfl, ?_⟩, kq.trans (hk.trans kt)⟩
      unfold JaL
      rw [if_neg (by omega), if_neg (by omega), if_neg (by omega), if_pos hk4]
      rw [JgP hp, t2, t1, S.toList_ofList]
      simp only [List.append_assoc]
     ·
      by_cases hk5 : k = 5
      ·
       have hp : 1 < ts.length := by
        subst hk5
        rcases hcs with ⟨h, q⟩ | ⟨h, q⟩ | ⟨h, q⟩ | ⟨h, q⟩ | ⟨h, q⟩ | ⟨h, q, q2⟩ | ⟨h, q⟩ | ⟨h, q⟩ | ⟨h, q, q2⟩
        all_goals first | (exfalso; omega) | exact q | exact ⟨q, q2⟩
       have e1 := eqk k 1 (b := false) (by subst hk5; rfl)
       simp only [Int.cast_ofNat_Int] at e1
       have e2 := eqk k 2 (b := false) (by subst hk5; rfl)
       simp only [Int.cast_ofNat_Int] at e2
       have e3 := eqk k 3 (b := false) (by subst hk5; rfl)
       simp only [Int.cast_ofNat_Int] at e3
       have e4 := eqk k 4 (b := false) (by subst hk5; rfl)
       simp only [Int.cast_ofNat_Int] at e4
       have e5 := eqk k 5 (b := true) (by subst hk5; rfl)
       simp only [Int.cast_ofNat_Int] at e5
       obtain ⟨st0, rfl⟩ : ∃ s, s = st' := ⟨st', rfl⟩
       have hxl := hx.l
       obtain ⟨ad0, i0, l0, n0⟩ := hx.at (show 0 < ts.length by omega)
       have i0 : Jd Tryz.prog 31 out (.int .i64 0) = some ad0 := i0
       have la0 := l0 st0 (.refl _)
       refine Kb_ fun K7 gn7 gx7 go7 => ?_
       have gr7 := fun fr st h => go7 AE.ret fr st trivial (gr fr st h)
       refine Ks_ (Ka_ (gs := [none, none]) fun K1 gK => ?_)
       simp (disch := omega) [e1]
       refine gK _ _ (Kf_ (by simp (disch := omega) []) (Ks_ (Ka_ (gs := [none, none]) fun K1 gK => ?_)))
       simp (disch := omega) [e2]
       refine gK _ _ (Kf_ (by simp (disch := omega) []) (Ks_ (Ka_ (gs := [none, none]) fun K1 gK => ?_)))
       simp (disch := omega) [e3]
       refine gK _ _ (Kf_ (by simp (disch := omega) []) (Ks_ (Ka_ (gs := [none, none]) fun K1 gK => ?_)))
       simp (disch := omega) [e4]
       refine gK _ _ (Kf_ (by simp (disch := omega) []) (Ks_ (Ka_ (gs := [none, none]) fun K1 gK => ?_)))
       simp (disch := omega) [e5]
       refine gK _ _ (Kt_ (by simp (disch := omega) []) (Ks_ (Ka_ (gs := [none, none, none, none]) fun K1 gK => ?_)))
       simp (disch := omega) [hF, i0, la0]
       refine gK _ _ (Ks_ (Ks_ (Ka_ (gs := [none]) fun K1 gK => ?_)))
       simp (disch := omega) []
       refine gK _ _ ?_
       refine Kl_ (ts.length) (fun j fr st' => ∃ (acc : S), Fs gl [(3, out), (5, .str acc), (6, .int .i64 (j : Int))] fr ∧ 1 ≤ j ∧ j ≤ ts.length ∧ st0 = st' ∧ acc.toList = J1 [59, 32] ((ts.take j).map S.toList) ∧ acc.n ≤ 600000 * j) (1) (fun fr st' => ∃ (acc : S), Fs gl [(5, .str acc)] fr ∧ st0 = st' ∧ acc.toList = J1 [59, 32] (ts.map S.toList)) ?_ ?_ ?_ ?_
       ·exact ⟨ts[0], by simp [Fs, hF], Nat.le_refl _, by omega, rfl, by (match ts, hp with | a :: b :: r, _ => simp [J1]), by omega⟩
       ·rintro j fr st' ⟨acc, _, hj1, hj, rfl, hacc, han⟩
        omega
       ·as_aux_lemma =>
        clear hF
        rintro j fr st' ⟨acc, hF, hj1, hj, rfl, hacc, han⟩ K8 gk8 gx8 go8
        simp only [Fs] at hF
        refine Ks_ (Ks_ (Ka_ (gs := [none, none, none, none]) fun K1 gK => ?_))
        simp (disch := omega) [hF, lts]
        refine gK _ _ ?_
        by_cases hlt : j < ts.length
        ·
         refine Kt_ (by simp (disch := omega) [hlt]) ?_
         obtain ⟨ae, ix, lx, nx⟩ := hx.at hlt
         have lx := lx _ (.refl _)
         obtain ⟨z1, a1', t1, m1⟩ := QE (P := Tryz.prog) (T := 9) acc (S.ofList [59, 32]) (by rw [Jb]; simp; omega)
         rw [Jb] at m1
         simp only [List.length_cons, List.length_nil] at m1
         obtain ⟨z2, a2', t2, m2⟩ := QE (P := Tryz.prog) (T := 9) z1 ts[j] (by omega)
         refine Kk_ (Ks_ ?_)
         refine Kb_ fun K9 gn9 gx9 go9 => ?_
         refine Ka_ (gs := [none, none, none, none, none, none, none, none]) fun K1 gK => ?_
         simp (disch := omega) [hF, hlt, ix, lx, a1', a2']
         refine gK _ _ (gn9 _ _ (Ka_ (gs := [none, none, none]) fun K1 gK => ?_))
         simp (disch := omega) [hF]
         refine gK _ _ ?_
         refine gk8 (j + 1) _ _ (by omega) ⟨z2, by simp [Fs, hF], by omega, by omega, rfl, by (rw [Jcl S.toList ts hlt, JfE, t2, t1, hacc, S.toList_ofList]; rw [JfF S.toList ts hlt (by omega)]; exact List.append_assoc _ _ _), by omega⟩
        ·
         refine Kf_ (by simp (disch := omega) [hlt]) ?_
         exact Kx_ (gx8 _ _ ⟨acc, by simp [Fs, hF, hlt], rfl, by (rw [hacc, List.take_of_length_le (by omega)])⟩)
       ·as_aux_lemma =>
        clear hF
        rintro fr st' ⟨acc, hF, rfl, hacc⟩
        simp only [Fs] at hF
        refine Ks_ (Ka_ (gs := [none, none]) fun K1 gK => ?_)
        simp (disch := omega) [hF]
        refine gK _ _ (Kq_ (gr7 _ _ ?_))
        simp [JW, Tryz.f20, hF]
        refine hR _ _ ?_
        refine ⟨⟨acc, rfl, ?_⟩, kq.trans hk⟩
        unfold JaL
        rw [if_neg (by omega), if_neg (by omega), if_neg (by omega), if_neg (by omega), if_pos hk5]
        exact hacc
      ·
       by_cases hk6 : k = 6
       ·
        have hp : 1 < ts.length ∧ ts.length ≤ 3 := by
         subst hk6
         rcases hcs with ⟨h, q⟩ | ⟨h, q⟩ | ⟨h, q⟩ | ⟨h, q⟩ | ⟨h, q⟩ | ⟨h, q, q2⟩ | ⟨h, q⟩ | ⟨h, q⟩ | ⟨h, q, q2⟩
         all_goals first | (exfalso; omega) | exact q | exact ⟨q, q2⟩
        have e1 := eqk k 1 (b := false) (by subst hk6; rfl)
        simp only [Int.cast_ofNat_Int] at e1
        have e2 := eqk k 2 (b := false) (by subst hk6; rfl)
        simp only [Int.cast_ofNat_Int] at e2
        have e3 := eqk k 3 (b := false) (by subst hk6; rfl)
        simp only [Int.cast_ofNat_Int] at e3
        have e4 := eqk k 4 (b := false) (by subst hk6; rfl)
        simp only [Int.cast_ofNat_Int] at e4
        have e5 := eqk k 5 (b := false) (by subst hk6; rfl)
        simp only [Int.cast_ofNat_Int] at e5
        have e6 := eqk k 6 (b := true) (by subst hk6; rfl)
        simp only [Int.cast_ofNat_Int] at e6
        obtain ⟨ad0, i0, l0, n0⟩ := hx.at (show 0 < ts.length by omega)
        have i0 : Jd Tryz.prog 31 out (.int .i64 0) = some ad0 := i0
        have la0 := l0 st' (.refl _)
        obtain ⟨ad1, i1, l1, n1⟩ := hx.at (show 1 < ts.length by omega)
        have i1 : Jd Tryz.prog 31 out (.int .i64 1) = some ad1 := i1
        have la1 := l1 st' (.refl _)
        obtain ⟨qt, hqt, kt, _⟩ := Jb0 st' 10
        have lb0 := l0 qt kt
        have lb1 := l1 qt kt
        obtain ⟨z1, a1', t1, m1⟩ := QE (P := Tryz.prog) (T := 9) (S.ofList [105, 102, 32]) ts[0] (by (try rw [Jb]); (try simp only [List.length_cons, List.length_nil]); omega)
        rw [Jb] at m1
        simp only [List.length_cons, List.length_nil] at m1
        obtain ⟨z2, a2', t2, m2⟩ := QE (P := Tryz.prog) (T := 9) z1 (S.ofList [59, 32, 116, 104, 101, 110, 32]) (by (try rw [Jb]); (try simp only [List.length_cons, List.length_nil]); omega)
        rw [Jb] at m2
        simp only [List.length_cons, List.length_nil] at m2
        obtain ⟨z3, a3', t3, m3⟩ := QE (P := Tryz.prog) (T := 9) z2 ts[1] (by (try rw [Jb]); (try simp only [List.length_cons, List.length_nil]); omega)
        obtain ⟨z6, a6', t6, m6⟩ := QE (P := Tryz.prog) (T := 9) z3 (S.ofList [59, 32, 102, 105]) (by (try rw [Jb]); (try simp only [List.length_cons, List.length_nil]); omega)
        rw [Jb] at m6
        simp only [List.length_cons, List.length_nil] at m6
        have hge : ∀ kk, Je Tryz.prog kk .eql 3 (.int .i64 (ts.length : Int)) (.int .i64 3) = some (.bool (decide (ts.length = 3))) := fun kk => JN
        refine Kb_ fun K10 gn10 gx10 go10 => ?_
        have gr10 := fun fr st h => go10 AE.ret fr st trivial (gr fr st h)
        refine Ks_ (Ka_ (gs := [none, none]) fun K1 gK => ?_)
        simp (disch := omega) [e1]
        refine gK _ _ (Kf_ (by simp (disch := omega) []) (Ks_ (Ka_ (gs := [none, none]) fun K1 gK => ?_)))
        simp (disch := omega) [e2]
        refine gK _ _ (Kf_ (by simp (disch := omega) []) (Ks_ (Ka_ (gs := [none, none]) fun K1 gK => ?_)))
        simp (disch := omega) [e3]
        refine gK _ _ (Kf_ (by simp (disch := omega) []) (Ks_ (Ka_ (gs := [none, none]) fun K1 gK => ?_)))
        simp (disch := omega) [e4]
        refine gK _ _ (Kf_ (by simp (disch := omega) []) (Ks_ (Ka_ (gs := [none, none]) fun K1 gK => ?_)))
        simp (disch := omega) [e5]
        refine gK _ _ (Kf_ (by simp (disch := omega) []) (Ks_ (Ka_ (gs := [none, none]) fun K1 gK => ?_)))
        simp (disch := omega) [e6]
        refine gK _ _ (Kt_ (by simp (disch := omega) []) (Ks_ (Kh_ (b := [0, 1, 3, 7, 15, 0, 32, 96, 255, 511]) (gs := [none, none, none, none, none, none, none, none, none, none]) fun K1 gK => ?_)))
        simp (disch := omega) [hF, hqt, i0, i1, lb0, lb1, a1', a2', a3']
        refine gK _ _ (Ks_ (Ks_ (Ka_ (gs := [none, none, none]) fun K1 gK => ?_)))
        simp (disch := omega) [hF, lts, hge]
        refine gK _ _ ?_
        by_cases h2 : ts.length = 3
        ·
         refine Kt_ (by simp (disch := omega) [h2]) ?_
         obtain ⟨ad2, i2, l2, n2⟩ := hx.at (show 2 < ts.length by omega)
         have i2 : Jd Tryz.prog 31 out (.int .i64 2) = some ad2 := i2
         have lb2 := l2 qt kt
         obtain ⟨z4, a4', t4, m4⟩ := QE (P := Tryz.prog) (T := 9) z3 (S.ofList [59, 32, 101, 108, 115, 101, 32]) (by (try rw [Jb]); (try simp only [List.length_cons, List.length_nil]); omega)
         rw [Jb] at m4
         simp only [List.length_cons, List.length_nil] at m4
         obtain ⟨z5, a5', t5, m5⟩ := QE (P := Tryz.prog) (T := 9) z4 ts[2] (by (try rw [Jb]); (try simp only [List.length_cons, List.length_nil]); omega)
         obtain ⟨z7, a7', t7, m7⟩ := QE (P := Tryz.prog) (T := 9) z5 (S.ofList [59, 32, 102, 105]) (by (try rw [Jb]); (try simp only [List.length_cons, List.length_nil]); omega)
         rw [Jb] at m7
         simp only [List.length_cons, List.length_nil] at m7
         refine Ka_ (gs := [none, none, none, none, none, none, none]) fun K1 gK => ?_
         simp (disch := omega) [hF, i2, lb2, a4', a5']
         refine gK _ _ (Ks_ (Ka_ (gs := [none, none, none]) fun K1 gK => ?_))
         simp (disch := omega) [a7']
         refine gK _ _ (Kq_ (gr10 _ _ ?_))
         simp [JW, Tryz.f20, hF]
         refine hR _ _ ?_
         refine ⟨⟨z7, rfl, ?_⟩, kq.trans (hk.trans kt)⟩
         unfold JaL
         rw [if_neg (by omega), if_neg (by omega), if_neg (by omega), if_neg (by omega), if_neg (by omega), if_pos hk6]
         rw [decide_eq_true (show 2 < (ts.map S.toList).length by rw [List.length_map]; omega), cond_true, t7, t5, t4, t3, t2, t1, S.toList_ofList, S.toList_ofList, S.toList_ofList, S.toList_ofList, QY (show 0 < ts.length by omega), QY (show 1 < ts.length by omega), QY (show 2 < ts.length by omega)]
         simp only [List.append_assoc]
        ·
         refine Kf_ (by simp (disch := omega) [h2]) (Kk_ (Ks_ (Ka_ (gs := [none, none, none]) fun K1 gK => ?_)))
         simp (disch := omega) [h2, a6']
         refine gK _ _ (Kq_ (gr10 _ _ ?_))
         simp [JW, Tryz.f20, hF]
         refine hR _ _ ?_
         refine ⟨⟨z6, rfl, ?_⟩, kq.trans (hk.trans kt)⟩
         unfold JaL
         rw [if_neg (by omega), if_neg (by omega), if_neg (by omega), if_neg (by omega), if_neg (by omega), if_pos hk6]
         rw [decide_eq_false (show ¬ 2 < (ts.map S.toList).length by rw [List.length_map]; omega), cond_false, t6, t3, t2, t1, S.toList_ofList, S.toList_ofList, S.toList_ofList, QY (show 0 < ts.length by omega), QY (show 1 < ts.length by omega)]
         simp only [List.append_assoc, List.nil_append]
       ·
        by_cases hk7 : k = 7
        ·
         have hp : 1 < ts.length := by
          subst hk7
          rcases hcs with ⟨h, q⟩ | ⟨h, q⟩ | ⟨h, q⟩ | ⟨h, q⟩ | ⟨h, q⟩ | ⟨h, q, q2⟩ | ⟨h, q⟩ | ⟨h, q⟩ | ⟨h, q, q2⟩
          all_goals first | (exfalso; omega) | exact q | exact ⟨q, q2⟩
         have e1 := eqk k 1 (b := false) (by subst hk7; rfl)
         simp only [Int.cast_ofNat_Int] at e1
         have e2 := eqk k 2 (b := false) (by subst hk7; rfl)
         simp only [Int.cast_ofNat_Int] at e2
         have e3 := eqk k 3 (b := false) (by subst hk7; rfl)
         simp only [Int.cast_ofNat_Int] at e3
         have e4 := eqk k 4 (b := false) (by subst hk7; rfl)
         simp only [Int.cast_ofNat_Int] at e4
         have e5 := eqk k 5 (b := false) (by subst hk7; rfl)
         simp only [Int.cast_ofNat_Int] at e5
         have e6 := eqk k 6 (b := false) (by subst hk7; rfl)
         simp only [Int.cast_ofNat_Int] at e6
         have e7 := eqk k 7 (b := true) (by subst hk7; rfl)
         simp only [Int.cast_ofNat_Int] at e7
         obtain ⟨ad0, i0, l0, n0⟩ := hx.at (show 0 < ts.length by omega)
         have i0 : Jd Tryz.prog 31 out (.int .i64 0) = some ad0 := i0
         have la0 := l0 st' (.refl _)
         obtain ⟨ad1, i1, l1, n1⟩ := hx.at (show 1 < ts.length by omega)
         have i1 : Jd Tryz.prog 31 out (.int .i64 1) = some ad1 := i1
         have la1 := l1 st' (.refl _)
         obtain ⟨qt, hqt, kt, _⟩ := Jb0 st' 11
         have lb0 := l0 qt kt
         have lb1 := l1 qt kt
         obtain ⟨z1, a1', t1, m1⟩ := QE (P := Tryz.prog) (T := 9) (S.ofList [119, 104, 105, 108, 101, 32]) ts[0] (by (try rw [Jb]); (try simp only [List.length_cons, List.length_nil]); omega)
         rw [Jb] at m1
         simp only [List.length_cons, List.length_nil] at m1
         obtain ⟨z2, a2', t2, m2⟩ := QE (P := Tryz.prog) (T := 9) z1 (S.ofList [59, 32, 100, 111, 32]) (by (try rw [Jb]); (try simp only [List.length_cons, List.length_nil]); omega)
         rw [Jb] at m2
         simp only [List.length_cons, List.length_nil] at m2
         obtain ⟨z3, a3', t3, m3⟩ := QE (P := Tryz.prog) (T := 9) z2 ts[1] (by (try rw [Jb]); (try simp only [List.length_cons, List.length_nil]); omega)
         obtain ⟨z4, a4', t4, m4⟩ := QE (P := Tryz.prog) (T := 9) z3 (S.ofList [59, 32, 100, 111, 110, 101]) (by (try rw [Jb]); (try simp only [List.length_cons, List.length_nil]); omega)
         rw [Jb] at m4
         simp only [List.length_cons, List.length_nil] at m4
         refine Kb_ fun K11 gn11 gx11 go11 => ?_
         have gr11 := fun fr st h => go11 AE.ret fr st trivial (gr fr st h)
         refine Ks_ (Ka_ (gs := [none, none]) fun K1 gK => ?_)
         simp (disch := omega) [e1]
         refine gK _ _ (Kf_ (by simp (disch := omega) []) (Ks_ (Ka_ (gs := [none, none]) fun K1 gK => ?_)))
         simp (disch := omega) [e2]
         refine gK _ _ (Kf_ (by simp (disch := omega) []) (Ks_ (Ka_ (gs := [none, none]) fun K1 gK => ?_)))
         simp (disch := omega) [e3]
         refine gK _ _ (Kf_ (by simp (disch := omega) []) (Ks_ (Ka_ (gs := [none, none]) fun K1 gK => ?_)))
         simp (disch := omega) [e4]
         refine gK _ _ (Kf_ (by simp (disch := omega) []) (Ks_ (Ka_ (gs := [none, none]) fun K1 gK => ?_)))
         simp (disch := omega) [e5]
         refine gK _ _ (Kf_ (by simp (disch := omega) []) (Ks_ (Ka_ (gs := [none, none]) fun K1 gK => ?_)))
         simp (disch := omega) [e6]
         refine gK _ _ (Kf_ (by simp (disch := omega) []) (Ks_ (Ka_ (gs := [none, none]) fun K1 gK => ?_)))
         simp (disch := omega) [e7]
         refine gK _ _ (Kt_ (by simp (disch := omega) []) (Ks_ (Kh_ (b := [0, 1, 3, 7, 15, 0, 32, 96, 255, 511, 1023]) (gs := [none, none, none, none, none, none, none, none, none, none, none]) fun K1 gK => ?_)))
         simp (disch := omega) [hF, hqt, i0, i1, lb0, lb1, a1', a2', a3', a4']
         refine gK _ _ (Kq_ (gr11 _ _ ?_))
         simp [JW, Tryz.f20, hF]
         refine hR _ _ ?_
         refine ⟨⟨z4, rfl, ?_⟩, kq.trans (hk.trans kt)⟩
         unfold JaL
         rw [if_neg (by omega), if_neg (by omega), if_neg (by omega), if_neg (by omega), if_neg (by omega), if_neg (by omega), if_pos hk7]
         rw [t4, t3, t2, t1, S.toList_ofList, S.toList_ofList, S.toList_ofList, QY (show 0 < ts.length by omega), QY (show 1 < ts.length by omega)]
         simp only [List.append_assoc]
        ·
         by_cases hk8 : k = 8
         ·
          have hp : 1 < ts.length := by
           subst hk8
           rcases hcs with ⟨h, q⟩ | ⟨h, q⟩ | ⟨h, q⟩ | ⟨h, q⟩ | ⟨h, q⟩ | ⟨h, q, q2⟩ | ⟨h, q⟩ | ⟨h, q⟩ | ⟨h, q, q2⟩
           all_goals first | (exfalso; omega) | exact q | exact ⟨q, q2⟩
          have e1 := eqk k 1 (b := false) (by subst hk8; rfl)
          simp only [Int.cast_ofNat_Int] at e1
          have e2 := eqk k 2 (b := false) (by subst hk8; rfl)
          simp only [Int.cast_ofNat_Int] at e2
          have e3 := eqk k 3 (b := false) (by subst hk8; rfl)
          simp only [Int.cast_ofNat_Int] at e3
          have e4 := eqk k 4 (b := false) (by subst hk8; rfl)
          simp only [Int.cast_ofNat_Int] at e4
          have e5 := eqk k 5 (b := false) (by subst hk8; rfl)
          simp only [Int.cast_ofNat_Int] at e5
          have e6 := eqk k 6 (b := false) (by subst hk8; rfl)
          simp only [Int.cast_ofNat_Int] at e6
          have e7 := eqk k 7 (b := false) (by subst hk8; rfl)
          simp only [Int.cast_ofNat_Int] at e7
          have e8 := eqk k 8 (b := true) (by subst hk8; rfl)
          simp only [Int.cast_ofNat_Int] at e8
          obtain ⟨ad0, i0, l0, n0⟩ := hx.at (show 0 < ts.length by omega)
          have i0 : Jd Tryz.prog 31 out (.int .i64 0) = some ad0 := i0
          have la0 := l0 st' (.refl _)
          obtain ⟨ad1, i1, l1, n1⟩ := hx.at (show 1 < ts.length by omega)
          have i1 : Jd Tryz.prog 31 out (.int .i64 1) = some ad1 := i1
          have la1 := l1 st' (.refl _)
          obtain ⟨qt, hqt, kt, _⟩ := Jb0 st' 11
          have lb0 := l0 qt kt
          have lb1 := l1 qt kt
          obtain ⟨z1, a1', t1, m1⟩ := QE (P := Tryz.prog) (T := 9) (S.ofList [117, 110, 116, 105, 108, 32]) ts[0] (by (try rw [Jb]); (try simp only [List.length_cons, List.length_nil]); omega)
          rw [Jb] at m1
          simp only [List.length_cons, List.length_nil] at m1
          obtain ⟨z2, a2', t2, m2⟩ := QE (P := Tryz.prog) (T := 9) z1 (S.ofList [59, 32, 100, 111, 32]) (by (try rw [Jb]); (try simp only [List.length_cons, List.length_nil]); omega)
          rw [Jb] at m2
          simp only [List.length_cons, List.length_nil] at m2
          obtain ⟨z3, a3', t3, m3⟩ := QE (P := Tryz.prog) (T := 9) z2 ts[1] (by (try rw [Jb]); (try simp only [List.length_cons, List.length_nil]); omega)
          obtain ⟨z4, a4', t4, m4⟩ := QE (P := Tryz.prog) (T := 9) z3 (S.ofList [59, 32, 100, 111, 110, 101]) (by (try rw [Jb]); (try simp only [List.length_cons, List.length_nil]); omega)
          rw [Jb] at m4
          simp only [List.length_cons, List.length_nil] at m4
          refine Kb_ fun K12 gn12 gx12 go12 => ?_
          have gr12 := fun fr st h => go12 AE.ret fr st trivial (gr fr st h)
          refine Ks_ (Ka_ (gs := [none, none]) fun K1 gK => ?_)
          simp (disch := omega) [e1]
          refine gK _ _ (Kf_ (by simp (disch := omega) []) (Ks_ (Ka_ (gs := [none, none]) fun K1 gK => ?_)))
          simp (disch := omega) [e2]
          refine gK _ _ (Kf_ (by simp (disch := omega) []) (Ks_ (Ka_ (gs := [none, none]) fun K1 gK => ?_)))
          simp (disch := omega) [e3]
          refine gK _ _ (Kf_ (by simp (disch := omega) []) (Ks_ (Ka_ (gs := [none, none]) fun K1 gK => ?_)))
          simp (disch := omega) [e4]
          refine gK _ _ (Kf_ (by simp (disch := omega) []) (Ks_ (Ka_ (gs := [none, none]) fun K1 gK => ?_)))
          simp (disch := omega) [e5]
          refine gK _ _ (Kf_ (by simp (disch := omega) []) (Ks_ (Ka_ (gs := [none, none]) fun K1 gK => ?_)))
          simp (disch := omega) [e6]
          refine gK _ _ (Kf_ (by simp (disch := omega) []) (Ks_ (Ka_ (gs := [none, none]) fun K1 gK => ?_)))
          simp (disch := omega) [e7]
          refine gK _ _ (Kf_ (by simp (disch := omega) []) (Ks_ (Ka_ (gs := [none, none]) fun K1 gK => ?_)))
          simp (disch := omega) [e8]
          refine gK _ _ (Kt_ (by simp (disch := omega) []) (Ks_ (Kh_ (b := [0, 1, 3, 7, 15, 0, 32, 96, 255, 511, 1023]) (gs := [none, none, none, none, none, none, none, none, none, none, none]) fun K1 gK => ?_)))
          simp (disch := omega) [hF, hqt, i0, i1, lb0, lb1, a1', a2', a3', a4']
          refine gK _ _ (Kq_ (gr12 _ _ ?_))
          simp [JW, Tryz.f20, hF]
          refine hR _ _ ?_
          refine ⟨⟨z4, rfl, ?_⟩, kq.trans (hk.trans kt)⟩
          unfold JaL
          rw [if_neg (by omega), if_neg (by omega), if_neg (by omega), if_neg (by omega), if_neg (by omega), if_neg (by omega), if_neg (by omega), if_pos hk8]
          rw [t4, t3, t2, t1, S.toList_ofList, S.toList_ofList, S.toList_ofList, QY (show 0 < ts.length by omega), QY (show 1 < ts.length by omega)]
          simp only [List.append_assoc]
         ·
          have hk9 : k = 9 := by rcases hcs with ⟨h, q⟩ | ⟨h, q⟩ | ⟨h, q⟩ | ⟨h, q⟩ | ⟨h, q⟩ | ⟨h, q, q2⟩ | ⟨h, q⟩ | ⟨h, q⟩ | ⟨h, q, q2⟩ <;> omega
          have hp : 0 < ts.length ∧ ws.all Ww.may = true := by
           subst hk9
           rcases hcs with ⟨h, q⟩ | ⟨h, q⟩ | ⟨h, q⟩ | ⟨h, q⟩ | ⟨h, q⟩ | ⟨h, q, q2⟩ | ⟨h, q⟩ | ⟨h, q⟩ | ⟨h, q, q2⟩
           all_goals first | (exfalso; omega) | exact q | exact ⟨q, q2⟩
          have e1 := eqk k 1 (b := false) (by subst hk9; rfl)
          simp only [Int.cast_ofNat_Int] at e1
          have e2 := eqk k 2 (b := false) (by subst hk9; rfl)
          simp only [Int.cast_ofNat_Int] at e2
          have e3 := eqk k 3 (b := false) (by subst hk9; rfl)
          simp only [Int.cast_ofNat_Int] at e3
          have e4 := eqk k 4 (b := false) (by subst hk9; rfl)
          simp only [Int.cast_ofNat_Int] at e4
          have e5 := eqk k 5 (b := false) (by subst hk9; rfl)
          simp only [Int.cast_ofNat_Int] at e5
          have e6 := eqk k 6 (b := false) (by subst hk9; rfl)
          simp only [Int.cast_ofNat_Int] at e6
          have e7 := eqk k 7 (b := false) (by subst hk9; rfl)
          simp only [Int.cast_ofNat_Int] at e7
          have e8 := eqk k 8 (b := false) (by subst hk9; rfl)
          simp only [Int.cast_ofNat_Int] at e8
          obtain ⟨v, s1, hc, ⟨z, rfl, hz⟩, k1⟩ := Says.use (JdC gl st' wv _ _ (hw.wsr hwok st') (WsS.of hwl hwf))
          have hzn : z.n ≤ 500000 := by rw [← S.len, hz]; exact hz0
          have hne : ∀ kk, Je Tryz.prog kk .neq 9 (.str z) (.str (S.ofList [])) = some (.bool (!decide (z.n = 0))) := fun kk => by rw [Jt, JiT]
          obtain ⟨E, hE⟩ : ∃ b, decide (z.n = 0) = b := ⟨_, rfl⟩
          rw [hE] at hne
          refine Kb_ fun K13 gn13 gx13 go13 => ?_
          refine Ks_ (Ka_ (gs := [none, none]) fun K1 gK => ?_)
          simp (disch := omega) [e1]
          refine gK _ _ (Kf_ (by simp (disch := omega) []) (Ks_ (Ka_ (gs := [none, none]) fun K1 gK => ?_)))
          simp (disch := omega) [e2]
          refine gK _ _ (Kf_ (by simp (disch := omega) []) (Ks_ (Ka_ (gs := [none, none]) fun K1 gK => ?_)))
          simp (disch := omega) [e3]
          refine gK _ _ (Kf_ (by simp (disch := omega) []) (Ks_ (Ka_ (gs := [none, none]) fun K1 gK => ?_)))
          simp (disch := omega) [e4]
          refine gK _ _ (Kf_ (by simp (disch := omega) []) (Ks_ (Ka_ (gs := [none, none]) fun K1 gK => ?_)))
          simp (disch := omega) [e5]
          refine gK _ _ (Kf_ (by simp (disch := omega) []) (Ks_ (Ka_ (gs := [none, none]) fun K1 gK => ?_)))
          simp (disch := omega) [e6]
          refine gK _ _ (Kf_ (by simp (disch := omega) []) (Ks_ (Ka_ (gs := [none, none]) fun K1 gK => ?_)))
          simp (disch := omega) [e7]
          refine gK _ _ (Kf_ (by simp (disch := omega) []) (Ks_ (Ka_ (gs := [none, none]) fun K1 gK => ?_)))
          simp (disch := omega) [e8]
          refine gK _ _ (Kf_ (by simp (disch := omega) []) (Kk_ (gn13 _ _ (Ks_ (Ka_ (gs := [none, none, none, none]) fun K1 gK => ?_)))))
          simp (disch := omega) [hF, cg3, d3, hc]
          refine gK _ _ (Ks_ (Ks_ (Ka_ (gs := [none, none]) fun K1 gK => ?_)))
          simp (disch := omega) [hne]
          refine gK _ _ ?_
          refine Km_ (fun fr st' => ∃ (y : S), Fs gl [(1, .ptr st.ctr 0), (3, out), (8, .str y)] fr ∧ s1 = st' ∧ y.toList = cond (J1 [32] ((ws.map Ww.l).map wTxt)).isEmpty [] (32 :: J1 [32] ((ws.map Ww.l).map wTxt)) ∧ y.n ≤ 500001) ?_ ?_
          ·as_aux_lemma =>
           intro K14 gm14 go14
           have hze : z.toList.isEmpty = E := by
            rw [← hE, Bool.eq_iff_iff, List.isEmpty_iff, decide_eq_true_iff, ← S.len, List.length_eq_zero_iff]
           cases E with
           | true =>
            refine Kf_ (by simp (disch := omega) []) (Kk_ ?_)
            exact gm14 _ _ ⟨z, by simp [Fs, hF], rfl, by (rw [← hz, hze, cond_true]; exact List.isEmpty_iff.1 hze), by omega⟩
           | false =>
            refine Kt_ (by simp (disch := omega) []) ?_
            obtain ⟨z1, a1', t1, m1⟩ := QE (P := Tryz.prog) (T := 9) (S.ofList [32]) z (by (try rw [Jb]); (try simp only [List.length_cons, List.length_nil]); omega)
            rw [Jb] at m1
            simp only [List.length_cons, List.length_nil] at m1
            refine Ka_ (gs := [none, none, none]) fun K1 gK => ?_
            simp (disch := omega) [a1']
            refine gK _ _ ?_
            exact gm14 _ _ ⟨z1, by simp [Fs, hF], rfl, by (rw [← hz, hze, cond_false, t1, S.toList_ofList]; rfl), by omega⟩
          ·as_aux_lemma =>
           clear hF
           rintro fr st' ⟨y, hF, rfl, hy, hyn⟩
           simp only [Fs] at hF
           obtain ⟨ad0, i0, l0, n0⟩ := hx.at (show 0 < ts.length by omega)
           have i0 : Jd Tryz.prog 31 out (.int .i64 0) = some ad0 := i0
           obtain ⟨qt, hqt, kt, _⟩ := Jb0 s1 13
           have la0 := l0 s1 k1
           have lb0 := l0 qt (k1.trans kt)
           have d2a := (hCk.keep k1).ld.l2
           have d2b := (hCk.keep (k1.trans kt)).ld.l2
           obtain ⟨z1, a1', t1, m1⟩ := QE (P := Tryz.prog) (T := 9) (S.ofList [102, 111, 114, 32]) nm (by (try rw [Jb]); (try simp only [List.length_cons, List.length_nil]); omega)
           rw [Jb] at m1
           simp only [List.length_cons, List.length_nil] at m1
           obtain ⟨z2, a2', t2, m2⟩ := QE (P := Tryz.prog) (T := 9) z1 (S.ofList [32, 105, 110]) (by (try rw [Jb]); (try simp only [List.length_cons, List.length_nil]); omega)
           rw [Jb] at m2
           simp only [List.length_cons, List.length_nil] at m2
           obtain ⟨z3, a3', t3, m3⟩ := QE (P := Tryz.prog) (T := 9) z2 y (by (try rw [Jb]); (try simp only [List.length_cons, List.length_nil]); omega)
           obtain ⟨z4, a4', t4, m4⟩ := QE (P := Tryz.prog) (T := 9) z3 (S.ofList [59, 32, 100, 111, 32]) (by (try rw [Jb]); (try simp only [List.length_cons, List.length_nil]); omega)
           rw [Jb] at m4
           simp only [List.length_cons, List.length_nil] at m4
           obtain ⟨z5, a5', t5, m5⟩ := QE (P := Tryz.prog) (T := 9) z4 ts[0] (by (try rw [Jb]); (try simp only [List.length_cons, List.length_nil]); omega)
           obtain ⟨z6, a6', t6, m6⟩ := QE (P := Tryz.prog) (T := 9) z5 (S.ofList [59, 32, 100, 111, 110, 101]) (by (try rw [Jb]); (try simp only [List.length_cons, List.length_nil]); omega)
           rw [Jb] at m6
           simp only [List.length_cons, List.length_nil] at m6
           refine Ks_ (Kh_ (b := [0, 1, 3, 7, 0, 31, 63, 0, 128, 384, 1023, 2047, 4095]) (gs := [none, none, none, none, none, none, none, none, none, none, none, none, none]) fun K1 gK => ?_)
           simp (disch := omega) [hF, cg2, hqt, i0, lb0, d2b, a1', a2', a3', a4', a5', a6']
           refine gK _ _ (Kq_ (gr _ _ ?_))
           simp [JW, Tryz.f20, hF]
           refine hR _ _ ?_
           refine ⟨⟨z6, rfl, ?_⟩, kq.trans (hk.trans (k1.trans kt))⟩
           unfold JaL
           rw [if_neg (by omega), if_neg (by omega), if_neg (by omega), if_neg (by omega), if_neg (by omega), if_neg (by omega), if_neg (by omega), if_neg (by omega)]
           rw [t6, t5, t4, t3, t2, t1, hy, S.toList_ofList, S.toList_ofList, S.toList_ofList, S.toList_ofList, QY (show 0 < ts.length by omega)]
           simp only [List.append_assoc]
end Go.Vm
namespace Go.Vm
open Go Go.Proofs Go.Sy
set_option maxRecDepth 100000
attribute [local simp] OkG Ql QG OkD Qf J8 JT Jj Jo vop Js Jy ev evs toV Jn Fr.dsTo Fr.glTo Fr.toNone Jk Jl Jm J6 Qe Jc Jz Jw V.undef JU JO Qn Qo Qt Qp Qu Qv JN Qw Qx Qy J7 Qz Ji Jt JG Jq JI Jp JX J2 Jv JM JP JS JK
variable [Memo] [NY] [NO]
omit [NO] in
theorem JiE (gl : Gl) (c : Cw) (hok : c.ok) : c.small → Fit c → JbU c = true → szC c ≤ 450 → JdB gl 20 c := by
 induction hok with
 | mk k a nm wv ws kv kids hk hw hws hkv hks ih =>
 intro hsm hfit hmay hsz
 cases hsm with
 | mk _ _ _ _ _ _ _ _ _ _ hwz hkz hws' hks' =>
 cases hfit with
 | mk _ _ _ _ _ _ _ hn hwl hkl hwf hkf =>
 simp only [JbU, Bool.and_eq_true] at hmay
 obtain ⟨hm1, hB⟩ := hmay
 rw [Jbk, List.all_eq_true] at hm1
 simp only [szC] at hsz
 intro st
 exact Jlu gl st k a nm wv ws kv kids hw hws hn hwl hwf (Jfx (by omega)) hwz hkz hkv hks hkf hkl (by omega) (fun c hc => ih c hc (hks' c hc) (hkf c hc) (hm1 c hc) (by have := Jbu hc; omega)) hB
def Jex : Cw → List (List UInt8)
 | .mk k a nm wv ws kv kids => if k = 0 then [] else if k = 5 then Jab 5 0 kids else [txC (.mk k a nm wv ws kv kids)]
def Jhu (c : Cw) : List (List UInt8) × Int :=
 if Jhs c = true then (if tot (Jex c) + (Jex c).length ≤ 16384 then (Jex c, 0) else ([], 40)) else ([], 4)
def LinV (lo : Nat) (st : St) (v : V) (r : List (List UInt8) × Int) : Prop :=
 ∃ (x : V) (ts : List S), v = .tup [x, .int .i64 r.2] ∧ Mine lo 9 st x (ts.map .str) ∧ ts.map S.toList = r.1 ∧ ts.length ≤ 300 ∧ ∀ s ∈ ts, s.n ≤ 500000
omit [Memo] [NY] [NO] in
theorem LinV.none {lo : Nat} {st : St} {r : List (List UInt8) × Int} (h : r.1 = []) : LinV lo st (.tup [.nils, .int .i64 r.2]) r := ⟨.nils, [], rfl, .nils, h.symm, by simp, by simp⟩
omit [Memo] [NY] [NO] in
theorem JiF {k : Nat} {a : Int} {nm : S} {wv : V} {ws : List Ww} {kv : V} {kids : List Cw} (h : Jhs (.mk k a nm wv ws kv kids) = true) (hk : k ≠ 0) : JbU (.mk k a nm wv ws kv kids) = true := by
 simp only [Jhs] at h
 rw [decide_eq_false hk, cond_false, Bool.and_eq_true] at h
 exact h.2
omit [Memo] [NY] [NO] in
theorem Jm7 {st : St} {id lo : Nat} {z : S} (hlo : lo ≤ id) (hid : id < st.ctr) (hb : st.box.get id = some (.cells [.str z] 9 true (some 0))) : Mine lo 9 st (.ms id 0 1 1 (some 1)) ([z].map .str) := JgI hlo hid hb
omit [Memo] [NY] [NO] in
theorem JiG {ts : List S} {j : Nat} (h : j < ts.length) : tot ((ts.take (j + 1)).map S.toList) = tot ((ts.take j).map S.toList) + ts[j].n := by
 rw [Jcl S.toList ts h]
 simp only [tot, List.map_append, List.map_cons, List.map_nil, List.sum_append, List.sum_cons, List.sum_nil, S.len]
 omega
omit [Memo] [NY] [NO] in
theorem JjH {c : Cw} (hfit : Fit c) (hsz : szC c ≤ 450) : (txC c).length ≤ 450000 := by
 have := JdY hfit; omega
set_option maxHeartbeats 8000000 in
set_option maxRecDepth 100000 in
theorem JgQ (gl : Gl) {aL : List V} (hh : Hits gl aL) (st : St) (k : Nat) (a : Int) (nm : S) (wv : V) (ws : List Ww) (kv : V) (kids : List Cw) (hok : Cw.ok (.mk k a nm wv ws kv kids)) (hsm : Cw.small (.mk k a nm wv ws kv kids)) (hfit : Fit (.mk k a nm wv ws kv kids)) (hsz : szC (.mk k a nm wv ws kv kids) ≤ 450) :
  Says Tryz.prog gl 9 [.agg [.int .u8 (k : Int), .int .i64 a, .str nm, wv, kv]] st (fun v st' => LinV st.ctr st' v (Jhu (.mk k a nm wv ws kv kids)) ∧ Keep st st') := by
 refine Qb (NY.no _ rfl rfl rfl _ _) Tryz.func9 rfl (by kernel_rfl) fun R hR K gr gn => ?_
 generalize hfr : JC gl [.agg [.int .u8 (k : Int), .int .i64 a, .str nm, wv, kv]] = fr
 have hF : Fs gl [(0, .agg [.int .u8 (k : Int), .int .i64 a, .str nm, wv, kv])] fr := by subst hfr; simp [Fs]
 simp only [Fs] at hF
 clear hfr
 have ho : ([.int .u8 (k : Int), .int .i64 a, .str nm, wv, kv] : List V).all Ju = true := Cw.ones hok
 have kq := JL st [.int .u8 (k : Int), .int .i64 a, .str nm, wv, kv] 25
 have hb := JZ st [.int .u8 (k : Int), .int .i64 a, .str nm, wv, kv] 25
 have hC := CB.new (st := st) (k := k) (a := a) (nm := nm) (wv := wv) (kv := kv)
 generalize QM st [.int .u8 (k : Int), .int .i64 a, .str nm, wv, kv] 25 = q0 at kq hb hC
 have lc := hC.ld.l
 obtain ⟨v, q1, hc1, rfl, k1⟩ := Says.use (JmV gl hh _ hok hsm q0)
 simp only [Cw.cells] at hc1
 obtain ⟨M, hM⟩ : ∃ b, Jhs (.mk k a nm wv ws kv kids) = b := ⟨_, rfl⟩
 rw [hM] at hc1
 unfold Jhu at hR
 rw [hM] at hR
 refine Ks_ (Ka_ (gs := [none, none, none]) fun K1 gK => ?_)
 simp (disch := omega) [hF, hb, ho]
 refine gK _ _ (Ks_ (Ks_ (Ka_ (gs := [none, none, none]) fun K1 gK => ?_)))
 simp (disch := omega) [hF, lc, hc1]
 refine gK _ _ ?_
 cases M with
 | true =>
  refine Kf_ (by simp (disch := omega) []) ?_
  have hC1 := hC.keep k1
  have d0 := hC1.ld.l0
  have d1 := hC1.ld.l
  have e0 : ∀ kk, Je Tryz.prog kk .eql 5 (.int .u8 (k : Int)) (.int .u8 0) = some (.bool (decide (k = 0))) := fun kk => JN
  have e5 : ∀ kk, Je Tryz.prog kk .eql 5 (.int .u8 (k : Int)) (.int .u8 5) = some (.bool (decide (k = 5))) := fun kk => JN
  have kq1 := kq.trans k1
  refine Kk_ (Ks_ (Ka_ (gs := [none]) fun K1 gK => ?_))
  simp (disch := omega) []
  refine gK _ _ (Ks_ (Ks_ (Ka_ (gs := [none, none]) fun K1 gK => ?_)))
  simp (disch := omega) [cg0, d0]
  refine gK _ _ ?_
  refine Km_ (fun fr st' => ∃ (out : V) (ts : List S), Fs gl [(4, out)] fr ∧ Keep q1 st' ∧ Mine st.ctr 9 st' out (ts.map .str) ∧ ts.map S.toList = Jex (.mk k a nm wv ws kv kids) ∧ ts.length ≤ 300 ∧ ∀ s ∈ ts, s.n ≤ 500000) ?_ ?_
  ·as_aux_lemma =>
   intro K1 gm1 go1
   refine Kb_ fun K2 gn2 gx2 go2 => ?_
   refine Ks_ (Ka_ (gs := [none, none]) fun K1 gK => ?_)
   simp (disch := omega) [e0]
   refine gK _ _ ?_
   by_cases h0 : k = 0
   ·
    refine Kt_ (by simp (disch := omega) [h0]) (Kk_ (gn2 _ _ ?_))
    exact gm1 _ _ ⟨.nils, [], by simp [Fs, hF], .refl _, .nils, by (simp only [Jex]; rw [if_pos h0]; rfl), by simp, by simp⟩
   ·
    refine Kf_ (by simp (disch := omega) [h0]) ?_
    have hmay := JiF hM h0
    have hwt := JhX gl hh _ hok hsm hfit hmay hsz
    have htle := JjH hfit hsz
    have hsim := hsm
    have hok' := hok
    cases hok with
    | mk _ _ _ _ _ _ _ hk hw hws hkv hks =>
    cases hsm with
    | mk _ _ _ _ _ _ _ _ _ _ hwz hkz hws' hks' =>
    cases hfit with
    | mk _ _ _ _ _ _ _ hn hwl hkl hwf hkf =>
    have hm2 := hmay
    simp only [JbU, Bool.and_eq_true] at hm2
    have hm1 := hm2.1
    rw [Jbk, List.all_eq_true] at hm1
    simp only [szC] at hsz
    refine Ks_ (Ka_ (gs := [none, none]) fun K1 gK => ?_)
    simp (disch := omega) [e5, h0]
    refine gK _ _ ?_
    by_cases h5 : k = 5
    ·
     refine Kt_ (by simp (disch := omega) [h5]) ?_
     obtain ⟨x, s2, hc2, ⟨ts, hx, hts, hmn⟩, k2⟩ := Says.use (JhW gl q1 k a nm wv kv kids hw.one hkv hks hkf hkl (by omega) (fun c hc => JhX gl hh c (hks c hc) (hks' c hc) (hkf c hc) (hm1 c hc) (by have := Jbu hc; omega)))
     refine Ka_ (gs := [none, none, none]) fun K1 gK => ?_
     simp (disch := omega) [hF, d1, hc2]
     refine gK _ _ (gn2 _ _ ?_)
     exact gm1 _ _ ⟨x, ts, by simp [Fs, hF], k2, hmn.low kq1.ctr, by (rw [hts]; simp only [Jex]; rw [if_neg h0, if_pos h5, h5]), hx.l, hx.n⟩
    ·
     refine Kf_ (by simp (disch := omega) [h5]) ?_
     obtain ⟨v, s2, hc2, ⟨z, rfl, hz⟩, k2⟩ := Says.use (hwt q1)
     simp only [Cw.cells] at hc2
     have hzn : z.n ≤ 450000 := by rw [← S.len, hz]; exact htle
     obtain ⟨u, hu⟩ : ∃ q, q = s2.new (.cells [.str z] 9 true (some 0)) := ⟨_, rfl⟩
     have ku : Keep s2 u := by rw [hu]; exact (Keep.refl s2).new' _
     have cu : u.ctr = s2.ctr + 1 := by rw [hu]; rfl
     have gu : u.box.get s2.ctr = some (.cells [.str z] 9 true (some 0)) := by rw [hu, Q9, if_pos rfl]
     have hfu : ({ ctr := s2.ctr + 1, box := s2.box.put s2.ctr (.cells [.str z] 9 true (some 0)) } : St) = u := by rw [hu]; rfl
     clear hu
     have kc := (kq1.trans k2).ctr
     refine Ka_ (gs := [none, none, none, none]) fun K1 gK => ?_
     simp (disch := omega) [hF, d1, h5, hc2, bs1, hfu, Jx, Ju]
     refine gK _ _ (gn2 _ _ ?_)
     exact gm1 _ _ ⟨.ms s2.ctr 0 1 1 (some 1), [z], by simp [Fs, hF], k2.trans ku, Jm7 kc (by omega) gu, by (simp only [Jex]; rw [if_neg h0, if_neg h5, List.map_cons, hz]; rfl), by simp, by (intro s hs; rw [List.mem_singleton] at hs; subst hs; omega)⟩
  ·as_aux_lemma =>
   clear hF
   rintro fr st' ⟨out, ts, hF, hk2, hm, hts, htl, htn⟩
   simp only [Fs] at hF
   obtain ⟨st0, rfl⟩ : ∃ s, s = st' := ⟨st', rfl⟩
   have hv := hm.vw
   have lo := hv.len Tryz.underlying31
   refine Ks_ (Ka_ (gs := [none, none, none]) fun K1 gK => ?_)
   simp (disch := omega) [hF, lo]
   refine gK _ _ (Ks_ (Ks_ (Ka_ (gs := [none, none, none]) fun K1 gK => ?_)))
   simp (disch := omega) [hF, lo]
   refine gK _ _ ?_
   refine Kl_ (ts.length) (fun j fr st' => ∃ (m : Nat), Fs gl [(4, out), (5, .int .i64 (m : Int)), (24, out), (25, .int .i64 (ts.length : Int)), (26, .int .i64 (j : Int))] fr ∧ j ≤ ts.length ∧ st0 = st' ∧ m = ts.length + tot ((ts.take j).map S.toList) ∧ m ≤ 300 + 500000 * j) (0) (fun fr st' => ∃ (m : Nat), Fs gl [(4, out), (5, .int .i64 (m : Int))] fr ∧ st0 = st' ∧ m = ts.length + tot (ts.map S.toList)) ?_ ?_ ?_ ?_
   ·exact ⟨ts.length, by simp [Fs, hF], Nat.zero_le _, rfl, by simp [tot], by omega⟩
   ·rintro j fr st' ⟨m, _, hj, rfl, htj, hmb⟩
    omega
   ·as_aux_lemma =>
    clear hF
    rintro j fr st' ⟨m, hF, hj, rfl, htj, hmb⟩ K3 gk3 gx3 go3
    simp only [Fs] at hF
    refine Ks_ (Ka_ (gs := [none]) fun K1 gK => ?_)
    simp (disch := omega) [hF]
    refine gK _ _ (Ks_ ?_)
    by_cases hlt : j < ts.length
    ·
     refine Kt_ (by simp (disch := omega) [hlt]) ?_
     have xi := hv.ix Tryz.underlying31 z9 (k := .i64) (a := (j : Int)) (by omega) (by omega)
     have xl := hv.ld z9 a9 hlt
     have ls := vlen9 ts[j]
     have htk := JiG hlt
     have hn5 := htn _ (List.getElem_mem hlt)
     refine Kk_ (Ks_ ?_)
     refine Kb_ fun K4 gn4 gx4 go4 => ?_
     refine Ks_ (Ka_ (gs := [none, none, none]) fun K1 gK => ?_)
     simp (disch := omega) [hF, hlt, xi, xl]
     refine gK _ _ (Ka_ (gs := [none, none, none, none, none]) fun K1 gK => ?_)
     simp (disch := omega) [hF, ls]
     refine gK _ _ (gn4 _ _ (Ka_ (gs := [none, none]) fun K1 gK => ?_))
     simp (disch := omega) [hF]
     refine gK _ _ ?_
     refine gk3 (j + 1) _ _ (by omega) ⟨m + ts[j].n, by simp [Fs, hF], by omega, rfl, by omega, by omega⟩
    ·
     refine Kf_ (by simp (disch := omega) [hlt]) ?_
     exact Kx_ (gx3 _ _ ⟨m, by simp [Fs, hF, hlt], rfl, by (rw [List.take_of_length_le (by omega)] at htj; exact htj)⟩)
   ·as_aux_lemma =>
    clear hF
    rintro fr st' ⟨m, hF, rfl, htm⟩
    simp only [Fs] at hF
    have hgt : ∀ kk, Je Tryz.prog kk .gtr 3 (.int .i64 (m : Int)) (.int .i64 16384) = some (.bool (decide (16384 < m))) := fun kk => J7
    have hlt2 : ts.length = (Jex (.mk k a nm wv ws kv kids)).length := by rw [← hts, List.length_map]
    refine Ks_ (Ks_ (Ka_ (gs := [none, none]) fun K1 gK => ?_))
    simp (disch := omega) [hF, hgt]
    refine gK _ _ ?_
    by_cases h16 : 16384 < m
    ·
     refine Kt_ (by simp (disch := omega) [h16]) (Ks_ (Ka_ (gs := [none, none]) fun K1 gK => ?_))
     simp (disch := omega) [h16]
     refine gK _ _ (Kq_ (gr _ _ ?_))
     simp [JW, Tryz.f9, hF]
     refine hR _ _ ?_
     refine ⟨?_, kq1.trans hk2⟩
     rw [if_pos rfl, ← hts, List.length_map, if_neg (by omega)]
     exact LinV.none (r := ([], 40)) rfl
    ·
     refine Kf_ (by simp (disch := omega) [h16]) (Kk_ (Ks_ (Ka_ (gs := [none, none, none]) fun K1 gK => ?_)))
     simp (disch := omega) [hF, h16]
     refine gK _ _ (Kq_ (gr _ _ ?_))
     simp [JW, Tryz.f9, hF]
     refine hR _ _ ?_
     refine ⟨?_, kq1.trans hk2⟩
     rw [if_pos rfl, ← hts, List.length_map, if_pos (by omega)]
     exact ⟨out, ts, rfl, hm, rfl, htl, htn⟩
 | false =>
  refine Kt_ (by simp (disch := omega) []) (Ks_ (Ka_ (gs := [none, none]) fun K1 gK => ?_))
  simp (disch := omega) []
  refine gK _ _ (Kq_ (gr _ _ ?_))
  simp [JW, Tryz.f9, hF]
  refine hR _ _ ?_
  refine ⟨?_, kq.trans k1⟩
  rw [if_neg (by simp)]
  exact LinV.none (r := ([], 4)) rfl
end Go.Vm
