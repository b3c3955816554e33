/- A script's lines: by the document. -/
import Derived.Test.YtlmmgpmioaecnaaGreatDoorSz10
import Derived.Test.YtlmmgpmioaecnaaGreatDoorVmMemo
namespace Go.Vm
open Go Go.Proofs Go.Sy
set_option maxRecDepth 100000
attribute [local simp] OkG Ql QG OkD Qf J8 JT Jj Jo vop Js Jy ev evs toV Jn Fr.dsTo Fr.glTo Fr.toNone Jk Jl Jm J6 Qe Jc Jz Jw V.undef JU JO Qn Qo Qt Qp Qu Qv JN Qw Qx Qy J7 Qz Ji Jt JG Jq JI Jp JX J2 Jv JM JP JS JK
variable [Memo] [NY] [NO]
set_option maxHeartbeats 8000000 in
set_option maxRecDepth 100000 in
omit [NO] in
theorem Jgu (gl : Gl) (st : St) (k : Nat) (a : Int) (nm : S) (wv : V) (ws : List Ww) (kv : V) (kids : List Cw) (hok : Cw.ok (.mk k a nm wv ws kv kids)) (hsm : Cw.small (.mk k a nm wv ws kv kids)) (hfit : Fit (.mk k a nm wv ws kv kids)) (hsz : szC (.mk k a nm wv ws kv kids) ≤ 450) :
  Says Tryz.prog gl 10 [.agg [.int .u8 (k : Int), .int .i64 a, .str nm, wv, kv]] st (fun v st' => LinV st.ctr st' v (Jhu (.mk k a nm wv ws kv kids)) ∧ Keep st st') := by
 refine Qb (NY.no _ rfl rfl rfl _ _) Tryz.func10 rfl (by kernel_rfl) fun R hR K gr gn => ?_
 generalize hfr : JC gl [.agg [.int .u8 (k : Int), .int .i64 a, .str nm, wv, kv]] = fr
 have hF : Fs gl [(0, .agg [.int .u8 (k : Int), .int .i64 a, .str nm, wv, kv])] fr := by subst hfr; simp [Fs]
 simp only [Fs] at hF
 clear hfr
 have ho : ([.int .u8 (k : Int), .int .i64 a, .str nm, wv, kv] : List V).all Ju = true := Cw.ones hok
 have kq := JL st [.int .u8 (k : Int), .int .i64 a, .str nm, wv, kv] 25
 have hb := JZ st [.int .u8 (k : Int), .int .i64 a, .str nm, wv, kv] 25
 have hC := CB.new (st := st) (k := k) (a := a) (nm := nm) (wv := wv) (kv := kv)
 generalize QM st [.int .u8 (k : Int), .int .i64 a, .str nm, wv, kv] 25 = q0 at kq hb hC
 have lc := hC.ld.l
 obtain ⟨v, q1, hc1, rfl, k1⟩ := Says.use (JmW gl _ hok hsm q0)
 simp only [Cw.cells] at hc1
 obtain ⟨M, hM⟩ : ∃ b, Jhs (.mk k a nm wv ws kv kids) = b := ⟨_, rfl⟩
 rw [hM] at hc1
 unfold Jhu at hR
 rw [hM] at hR
 refine Ks_ (Ka_ (gs := [none, none, none]) fun K1 gK => ?_)
 simp (disch := omega) [hF, hb, ho]
 refine gK _ _ (Ks_ (Ks_ (Ka_ (gs := [none, none, none]) fun K1 gK => ?_)))
 simp (disch := omega) [hF, lc, hc1]
 refine gK _ _ ?_
 cases M with
 | true =>
  refine Kf_ (by simp (disch := omega) []) ?_
  have hC1 := hC.keep k1
  have d0 := hC1.ld.l0
  have d1 := hC1.ld.l
  have e0 : ∀ kk, Je Tryz.prog kk .eql 5 (.int .u8 (k : Int)) (.int .u8 0) = some (.bool (decide (k = 0))) := fun kk => JN
  have e5 : ∀ kk, Je Tryz.prog kk .eql 5 (.int .u8 (k : Int)) (.int .u8 5) = some (.bool (decide (k = 5))) := fun kk => JN
  have kq1 := kq.trans k1
  refine Kk_ (Ks_ (Ka_ (gs := [none]) fun K1 gK => ?_))
  simp (disch := omega) []
  refine gK _ _ (Ks_ (Ks_ (Ka_ (gs := [none, none]) fun K1 gK => ?_)))
  simp (disch := omega) [cg0, d0]
  refine gK _ _ ?_
  refine Km_ (fun fr st' => ∃ (out : V) (ts : List S), Fs gl [(4, out)] fr ∧ Keep q1 st' ∧ Mine st.ctr 9 st' out (ts.map .str) ∧ ts.map S.toList = Jex (.mk k a nm wv ws kv kids) ∧ ts.length ≤ 300 ∧ ∀ s ∈ ts, s.n ≤ 500000) ?_ ?_
  ·as_aux_lemma =>
   intro K1 gm1 go1
   refine Kb_ fun K2 gn2 gx2 go2 => ?_
   refine Ks_ (Ka_ (gs := [none, none]) fun K1 gK => ?_)
   simp (disch := omega) [e0]
   refine gK _ _ ?_
   by_cases h0 : k = 0
   ·
    refine Kt_ (by simp (disch := omega) [h0]) (Kk_ (gn2 _ _ ?_))
    exact gm1 _ _ ⟨.nils, [], by simp [Fs, hF], .refl _, .nils, by (simp only [Jex]; rw [if_pos h0]; rfl), by simp, by simp⟩
   ·
    refine Kf_ (by simp (disch := omega) [h0]) ?_
    have hmay := JiF hM h0
    have hwt := JiE gl _ hok hsm hfit hmay hsz
    have htle := JjH hfit hsz
    have hsim := hsm
    have hok' := hok
    cases hok with
    | mk _ _ _ _ _ _ _ hk hw hws hkv hks =>
    cases hsm with
    | mk _ _ _ _ _ _ _ _ _ _ hwz hkz hws' hks' =>
    cases hfit with
    | mk _ _ _ _ _ _ _ hn hwl hkl hwf hkf =>
    have hm2 := hmay
    simp only [JbU, Bool.and_eq_true] at hm2
    have hm1 := hm2.1
    rw [Jbk, List.all_eq_true] at hm1
    simp only [szC] at hsz
    refine Ks_ (Ka_ (gs := [none, none]) fun K1 gK => ?_)
    simp (disch := omega) [e5, h0]
    refine gK _ _ ?_
    by_cases h5 : k = 5
    ·
     refine Kt_ (by simp (disch := omega) [h5]) ?_
     have ihr : ∀ c ∈ kids, JdB gl 20 c := fun c hc => JiE gl c (hks c hc) (hks' c hc) (hkf c hc) (hm1 c hc) (by have := Jbu hc; omega)
     have lk := hkv.len Tryz.underlying23
     refine Ks_ (Ka_ (gs := [none]) fun K1 gK => ?_)
     simp (disch := omega) []
     refine gK _ _ ?_
     refine Kl_ (kids.length) (fun i fr st' => ∃ (out : V) (ts : List S), Fs gl [(1, .ptr st.ctr 0), (4, out), (5, .int .i64 (i : Int))] fr ∧ i ≤ kids.length ∧ Keep q1 st' ∧ Mine q1.ctr 9 st' out (ts.map .str) ∧ ts.map S.toList = Jab k 0 (kids.take i)) (0) (fun fr st' => ∃ (out : V) (ts : List S), Fs gl [(4, out)] fr ∧ Keep q1 st' ∧ Mine q1.ctr 9 st' out (ts.map .str) ∧ ts.map S.toList = Jab k 0 kids) ?_ ?_ ?_ ?_
     ·exact ⟨.nils, [], by simp [Fs, hF], Nat.zero_le _, .refl _, .nils, rfl⟩
     ·rintro i fr st' ⟨out, ts, _, hi, hk2, hm, hts⟩
      omega
     ·as_aux_lemma =>
      clear hF
      rintro i fr st' ⟨out, ts, hF, hi, hk2, hm, hts⟩ K3 gk3 gx3 go3
      simp only [Fs] at hF
      have l4 := (hC1.keep hk2).ld.l4
      refine Ks_ (Ks_ (Ka_ (gs := [none, none, none, none, none]) fun K1 gK => ?_))
      simp (disch := omega) [hF, cg4, lk, l4]
      refine gK _ _ ?_
      by_cases hlt : i < kids.length
      ·
       refine Kt_ (by simp (disch := omega) [hlt]) ?_
       have hmem := List.getElem_mem hlt
       have lcm := (hC1.keep hk2).ld.l
       obtain ⟨v, s1, hc, ⟨w, rfl, hw1⟩, k1'⟩ := Says.use (Jgx gl st' k a nm wv kv kids i hkv hw.one hlt (JjH (hkf _ hmem) (by have := Jbu hmem; omega)) (ihr _ hmem))
       obtain ⟨u, hu⟩ : ∃ q, q = s1.new (.cells [.str w] 9 true (some 0)) := ⟨_, rfl⟩
       have ku : Keep s1 u := by rw [hu]; exact (Keep.refl s1).new' _
       have cu : u.ctr = s1.ctr + 1 := by rw [hu]; rfl
       have gu : u.box.get s1.ctr = some (.cells [.str w] 9 true (some 0)) := by rw [hu, Q9, if_pos rfl]
       have hfu : ({ ctr := s1.ctr + 1, box := s1.box.put s1.ctr (.cells [.str w] 9 true (some 0)) } : St) = u := by rw [hu]; rfl
       clear hu
       have hku := hk2.trans (k1'.trans ku)
       have hkc := hk2.ctr
       have hkuc := hku.ctr
       have htl : ts.length = i := by
        have := congrArg List.length hts
        rw [List.length_map, JaI, List.length_take, Nat.min_eq_left hi] at this
        exact this
       obtain ⟨y, s4, e4, low4, m4, _⟩ := JfL (hm.keep (k1'.trans ku)) ((JgI (lo := 0) (by omega) (by omega) gu).src rfl) (by omega) (by simp; omega)
       simp only [List.length_cons, List.length_nil] at e4
       refine Kk_ (Ks_ ?_)
       refine Kb_ fun K4 gn4 gx4 go4 => ?_
       refine Ka_ (gs := [none, none, none, none, none, none, none]) fun K1 gK => ?_
       simp (disch := omega) [hF, hlt, lcm, hc, bs1, hfu, e4, Jx, Ju]
       refine gK _ _ (gn4 _ _ (Ka_ (gs := [none, none, none]) fun K1 gK => ?_))
       simp (disch := omega) [hF]
       refine gK _ _ ?_
       refine gk3 (i + 1) _ _ (by omega) ⟨y, ts ++ [w], by simp [Fs, hF], by omega, Low.keep low4 hku (by omega), by simpa using m4, by (rw [List.map_append, hts, JdD k hlt, List.map_cons, hw1]; rfl)⟩
      ·
       refine Kf_ (by simp (disch := omega) [hlt]) ?_
       exact Kx_ (gx3 _ _ ⟨out, ts, by simp [Fs, hF, hlt], hk2, hm, by (rw [hts, List.take_of_length_le (by omega)])⟩)
     ·as_aux_lemma =>
      clear hF
      rintro fr st' ⟨out, ts, hF, hk2, hm, hts⟩
      simp only [Fs] at hF
      have hx := Tx.of hm hts hkl hkf (by omega)
      refine gn2 _ _ ?_
      exact gm1 _ _ ⟨out, ts, by simp [Fs, hF], hk2, hm.low kq1.ctr, by (rw [hts]; simp only [Jex]; rw [if_neg h0, if_pos h5, h5]), hx.l, hx.n⟩
    ·
     refine Kf_ (by simp (disch := omega) [h5]) ?_
     obtain ⟨v, s2, hc2, ⟨z, rfl, hz⟩, k2⟩ := Says.use (hwt q1)
     simp only [Cw.cells] at hc2
     have hzn : z.n ≤ 450000 := by rw [← S.len, hz]; exact htle
     obtain ⟨u, hu⟩ : ∃ q, q = s2.new (.cells [.str z] 9 true (some 0)) := ⟨_, rfl⟩
     have ku : Keep s2 u := by rw [hu]; exact (Keep.refl s2).new' _
     have cu : u.ctr = s2.ctr + 1 := by rw [hu]; rfl
     have gu : u.box.get s2.ctr = some (.cells [.str z] 9 true (some 0)) := by rw [hu, Q9, if_pos rfl]
     have hfu : ({ ctr := s2.ctr + 1, box := s2.box.put s2.ctr (.cells [.str z] 9 true (some 0)) } : St) = u := by rw [hu]; rfl
     clear hu
     have kc := (kq1.trans k2).ctr
     have k2u := (k2.trans ku).ctr
     have kqc := kq1.ctr
     obtain ⟨y, s4, e4, low4, m4, _⟩ := JfL (lo := u.ctr) (x := .nils) (l := []) (st := u) .nils ((JgI (lo := 0) (by omega) (by omega) gu).src rfl) (Nat.le_refl _) (by simp)
     simp only [List.length_cons, List.length_nil] at e4
     refine Ka_ (gs := [none, none, none, none, none, none]) fun K1 gK => ?_
     simp (disch := omega) [hF, d1, h5, hc2, bs1, hfu, e4, Jx, Ju]
     refine gK _ _ (gn2 _ _ ?_)
     exact gm1 _ _ ⟨y, [z], by simp [Fs, hF], Low.keep low4 (k2.trans ku) (by omega), by (have := m4.low (lo' := st.ctr) (by omega); simpa using this), by (simp only [Jex]; rw [if_neg h0, if_neg h5, List.map_cons, hz]; rfl), by simp, by (intro s hs; rw [List.mem_singleton] at hs; subst hs; omega)⟩
  ·as_aux_lemma =>
   clear hF
   rintro fr st' ⟨out, ts, hF, hk2, hm, hts, htl, htn⟩
   simp only [Fs] at hF
   obtain ⟨st0, rfl⟩ : ∃ s, s = st' := ⟨st', rfl⟩
   have hv := hm.vw
   have lo := hv.len Tryz.underlying31
   refine Ks_ (Ka_ (gs := [none]) fun K1 gK => ?_)
   simp (disch := omega) []
   refine gK _ _ (Ks_ (Ks_ (Ka_ (gs := [none]) fun K1 gK => ?_)))
   simp (disch := omega) []
   refine gK _ _ ?_
   refine Kl_ (ts.length) (fun j fr st' => ∃ (m : Nat), Fs gl [(4, out), (6, .int .i64 (m : Int)), (7, .int .i64 (j : Int))] fr ∧ j ≤ ts.length ∧ st0 = st' ∧ m = j + tot ((ts.take j).map S.toList) ∧ m ≤ 500001 * j) (0) (fun fr st' => ∃ (m : Nat), Fs gl [(4, out), (6, .int .i64 (m : Int))] fr ∧ st0 = st' ∧ m = ts.length + tot (ts.map S.toList)) ?_ ?_ ?_ ?_
   ·exact ⟨0, by simp [Fs, hF], Nat.zero_le _, rfl, by simp [tot], by omega⟩
   ·rintro j fr st' ⟨m, _, hj, rfl, htj, hmb⟩
    omega
   ·as_aux_lemma =>
    clear hF
    rintro j fr st' ⟨m, hF, hj, rfl, htj, hmb⟩ K5 gk5 gx5 go5
    simp only [Fs] at hF
    refine Ks_ (Ks_ (Ka_ (gs := [none, none, none, none]) fun K1 gK => ?_))
    simp (disch := omega) [hF, lo]
    refine gK _ _ ?_
    by_cases hlt : j < ts.length
    ·
     refine Kt_ (by simp (disch := omega) [hlt]) ?_
     have xi := hv.ix Tryz.underlying31 z9 (k := .i64) (a := (j : Int)) (by omega) (by omega)
     have xl := hv.ld z9 a9 hlt
     have ls := vlen9 ts[j]
     have htk := JiG hlt
     have hn5 := htn _ (List.getElem_mem hlt)
     refine Kk_ (Ks_ ?_)
     refine Kb_ fun K6 gn6 gx6 go6 => ?_
     refine Ka_ (gs := [none, none, none, none, none, none, none, none, none]) fun K1 gK => ?_
     simp (disch := omega) [hF, hlt, xi, xl, ls]
     refine gK _ _ (gn6 _ _ (Ka_ (gs := [none, none, none]) fun K1 gK => ?_))
     simp (disch := omega) [hF]
     refine gK _ _ ?_
     refine gk5 (j + 1) _ _ (by omega) ⟨m + ts[j].n + 1, by simp [Fs, hF], by omega, rfl, by omega, by omega⟩
    ·
     refine Kf_ (by simp (disch := omega) [hlt]) ?_
     exact Kx_ (gx5 _ _ ⟨m, by simp [Fs, hF, hlt], rfl, by (rw [List.take_of_length_le (by omega)] at htj; omega)⟩)
   ·as_aux_lemma =>
    clear hF
    rintro fr st' ⟨m, hF, rfl, htm⟩
    simp only [Fs] at hF
    have hgt : ∀ kk, Je Tryz.prog kk .gtr 3 (.int .i64 (m : Int)) (.int .i64 16384) = some (.bool (decide (16384 < m))) := fun kk => J7
    have hlt2 : ts.length = (Jex (.mk k a nm wv ws kv kids)).length := by rw [← hts, List.length_map]
    refine Ks_ (Ks_ (Ka_ (gs := [none, none]) fun K1 gK => ?_))
    simp (disch := omega) [hF, hgt]
    refine gK _ _ ?_
    by_cases h16 : 16384 < m
    ·
     refine Kt_ (by simp (disch := omega) [h16]) (Ks_ (Ka_ (gs := [none, none]) fun K1 gK => ?_))
     simp (disch := omega) [h16]
     refine gK _ _ (Kq_ (gr _ _ ?_))
     simp [JW, Tryz.f10, hF]
     refine hR _ _ ?_
     refine ⟨?_, kq1.trans hk2⟩
     rw [if_pos rfl, ← hts, List.length_map, if_neg (by omega)]
     exact LinV.none (r := ([], 40)) rfl
    ·
     refine Kf_ (by simp (disch := omega) [h16]) (Kk_ (Ks_ (Ka_ (gs := [none, none, none]) fun K1 gK => ?_)))
     simp (disch := omega) [hF, h16]
     refine gK _ _ (Kq_ (gr _ _ ?_))
     simp [JW, Tryz.f10, hF]
     refine hR _ _ ?_
     refine ⟨?_, kq1.trans hk2⟩
     rw [if_pos rfl, ← hts, List.length_map, if_pos (by omega)]
     exact ⟨out, ts, rfl, hm, rfl, htl, htn⟩
 | false =>
  refine Kt_ (by simp (disch := omega) []) (Ks_ (Ka_ (gs := [none, none]) fun K1 gK => ?_))
  simp (disch := omega) []
  refine gK _ _ (Kq_ (gr _ _ ?_))
  simp [JW, Tryz.f10, hF]
  refine hR _ _ ?_
  refine ⟨?_, kq.trans k1⟩
  rw [if_neg (by simp)]
  exact LinV.none (r := ([], 4)) rfl
end Go.Vm
namespace Go.Vm
open Go Go.Proofs Go.Sy
set_option maxRecDepth 100000
attribute [local simp] OkG Ql QG OkD Qf J8 JT Jj Jo vop Js Jy ev evs toV Jn Fr.dsTo Fr.glTo Fr.toNone Jk Jl Jm J6 Qe Jc Jz Jw V.undef JU JO Qn Qo Qt Qp Qu Qv JN Qw Qx Qy J7 Qz Ji Jt JG Jq JI Jp JX J2 Jv JM JP JS JK
def JdR (l : List (List UInt8)) : List UInt8 := l.flatMap fun x => x ++ [10]
theorem Jfr : ∀ l : List (List UInt8), l ≠ [] → J1 [10] l ++ [10] = JdR l
 | [], h => absurd rfl h
 | [a], _ => by simp [J1, JdR]
 | a :: b :: r, _ => by
  have := Jfr (b :: r) (by simp)
  rw [JeI]
  simp only [JdR, List.flatMap_cons] at this ⊢
  rw [List.append_assoc, List.append_assoc, this]
  simp
theorem JiP (l : List (List UInt8)) (a : List UInt8) : JdR (l ++ [a]) = JdR l ++ (a ++ [10]) := by simp [JdR]
def ShV (v : V) (r : List (List UInt8) × Int) : Prop := ∃ z : S, v = .tup [.str z, .int .i64 r.2] ∧ z.toList = JdR r.1
variable [Memo] [NY] [NO]
set_option maxHeartbeats 4000000 in
set_option maxRecDepth 100000 in
theorem JkJ (gl : Gl) {aL : List V} (hh : Hits gl aL) (st : St) (k : Nat) (a : Int) (nm : S) (wv : V) (ws : List Ww) (kv : V) (kids : List Cw) (hok : Cw.ok (.mk k a nm wv ws kv kids)) (hsm : Cw.small (.mk k a nm wv ws kv kids)) (hfit : Fit (.mk k a nm wv ws kv kids)) (hsz : szC (.mk k a nm wv ws kv kids) ≤ 450) :
  Says Tryz.prog gl 7 [.agg [.int .u8 (k : Int), .int .i64 a, .str nm, wv, kv]] st (fun v st' => ShV v (Jhu (.mk k a nm wv ws kv kids)) ∧ Keep st st') := by
 refine Qb (NY.no _ rfl rfl rfl _ _) Tryz.func7 rfl (by kernel_rfl) fun R hR K gr gn => ?_
 generalize hfr : JC gl [.agg [.int .u8 (k : Int), .int .i64 a, .str nm, wv, kv]] = fr
 have hF : Fs gl [(0, .agg [.int .u8 (k : Int), .int .i64 a, .str nm, wv, kv])] fr := by subst hfr; simp [Fs]
 simp only [Fs] at hF
 clear hfr
 have ho : ([.int .u8 (k : Int), .int .i64 a, .str nm, wv, kv] : List V).all Ju = true := Cw.ones hok
 have kq := JL st [.int .u8 (k : Int), .int .i64 a, .str nm, wv, kv] 25
 have hb := JZ st [.int .u8 (k : Int), .int .i64 a, .str nm, wv, kv] 25
 have hC := CB.new (st := st) (k := k) (a := a) (nm := nm) (wv := wv) (kv := kv)
 generalize QM st [.int .u8 (k : Int), .int .i64 a, .str nm, wv, kv] 25 = q0 at kq hb hC
 have lc := hC.ld.l
 obtain ⟨v, q1, hc1, ⟨x, ts, rfl, hm, hts, htl, htn⟩, k1⟩ := Says.use (JgQ gl hh q0 k a nm wv ws kv kids hok hsm hfit hsz)
 generalize Jhu (.mk k a nm wv ws kv kids) = r at hc1 hts hR
 obtain ⟨rl, re⟩ := r
 simp only at hts hc1
 subst hts
 have hv := hm.vw
 have lo := hv.len Tryz.underlying31
 have h0 : ∀ kk, Je Tryz.prog kk .eql 3 (.int .i64 (ts.length : Int)) (.int .i64 0) = some (.bool (decide (ts.length = 0))) := fun kk => JN
 obtain ⟨E, hE⟩ : ∃ b, decide (ts.length = 0) = b := ⟨_, rfl⟩
 rw [hE] at h0
 refine Ks_ (Ka_ (gs := [none, none, none]) fun K1 gK => ?_)
 simp (disch := omega) [hF, hb, ho]
 refine gK _ _ (Ks_ (Ka_ (gs := [none, none, none, none, none, none, none]) fun K1 gK => ?_))
 simp (disch := omega) [hF, lc, hc1]
 refine gK _ _ (Ks_ (Ks_ (Ka_ (gs := [none, none, none]) fun K1 gK => ?_)))
 simp (disch := omega) [lo, h0]
 refine gK _ _ ?_
 cases E with
 | true =>
  refine Kt_ (by simp (disch := omega) []) ?_
  have hz : ts.length = 0 := of_decide_eq_true hE
  refine Ks_ (Ka_ (gs := [none, none, none]) fun K1 gK => ?_)
  simp (disch := omega) []
  refine gK _ _ (Kq_ (gr _ _ ?_))
  simp [JW, Tryz.f7, hF]
  refine hR _ _ ?_
  exact ⟨⟨S.ofList [], rfl, by rw [S.toList_ofList]; rw [List.length_eq_zero_iff.1 hz]; rfl⟩, kq.trans k1⟩
 | false =>
  refine Kf_ (by simp (disch := omega) []) ?_
  have hz : ts.length ≠ 0 := of_decide_eq_false hE
  obtain ⟨v, s5, hj, ⟨z, rfl, hz1⟩, k5⟩ := Says.use (JfD gl (S.ofList [10]) q1 x ts hv (Nat.le_refl 1) (by rw [Jb]; simp) (by omega) (fun s hs => by have := htn s hs; omega))
  rw [S.toList_ofList] at hz1
  have hzn : z.n ≤ 200000000 := by
   rw [← S.len, hz1]
   have h1 := JkZ [10] (B := 500000) (ts.map S.toList) fun b hb => by
    obtain ⟨s, hs, rfl⟩ := List.mem_map.1 hb
    rw [S.len]; exact htn s hs
   simp only [List.length_map, List.length_cons, List.length_nil] at h1
   omega
  obtain ⟨z2, a2, t2, m2⟩ := QE (P := Tryz.prog) (T := 9) z (S.ofList [10]) (by rw [Jb]; simp; omega)
  refine Kk_ (Ks_ (Ka_ (gs := [none, none, none, none, none, none]) fun K1 gK => ?_))
  simp (disch := omega) [hF, hj, a2]
  refine gK _ _ (Kq_ (gr _ _ ?_))
  simp [JW, Tryz.f7, hF]
  refine hR _ _ ?_
  exact ⟨⟨z2, rfl, by rw [t2, hz1, S.toList_ofList]; exact Jfr _ (by intro e; rw [List.map_eq_nil_iff] at e; subst e; exact hz rfl)⟩, kq.trans (k1.trans k5)⟩
set_option maxHeartbeats 4000000 in
set_option maxRecDepth 100000 in
omit [NO] in
theorem JkK (gl : Gl) (st : St) (k : Nat) (a : Int) (nm : S) (wv : V) (ws : List Ww) (kv : V) (kids : List Cw) (hok : Cw.ok (.mk k a nm wv ws kv kids)) (hsm : Cw.small (.mk k a nm wv ws kv kids)) (hfit : Fit (.mk k a nm wv ws kv kids)) (hsz : szC (.mk k a nm wv ws kv kids) ≤ 450) :
  Says Tryz.prog gl 8 [.agg [.int .u8 (k : Int), .int .i64 a, .str nm, wv, kv]] st (fun v st' => ShV v (Jhu (.mk k a nm wv ws kv kids)) ∧ Keep st st') := by
 refine Qb (NY.no _ rfl rfl rfl _ _) Tryz.func8 rfl (by kernel_rfl) fun R hR K gr gn => ?_
 generalize hfr : JC gl [.agg [.int .u8 (k : Int), .int .i64 a, .str nm, wv, kv]] = fr
 have hF : Fs gl [(0, .agg [.int .u8 (k : Int), .int .i64 a, .str nm, wv, kv])] fr := by subst hfr; simp [Fs]
 simp only [Fs] at hF
 clear hfr
 have ho : ([.int .u8 (k : Int), .int .i64 a, .str nm, wv, kv] : List V).all Ju = true := Cw.ones hok
 have kq := JL st [.int .u8 (k : Int), .int .i64 a, .str nm, wv, kv] 25
 have hb := JZ st [.int .u8 (k : Int), .int .i64 a, .str nm, wv, kv] 25
 have hC := CB.new (st := st) (k := k) (a := a) (nm := nm) (wv := wv) (kv := kv)
 generalize QM st [.int .u8 (k : Int), .int .i64 a, .str nm, wv, kv] 25 = q0 at kq hb hC
 have lc := hC.ld.l
 obtain ⟨v, q1, hc1, ⟨x, ts, rfl, hm, hts, htl, htn⟩, k1⟩ := Says.use (Jgu gl q0 k a nm wv ws kv kids hok hsm hfit hsz)
 generalize Jhu (.mk k a nm wv ws kv kids) = r at hc1 hts hR
 obtain ⟨rl, re⟩ := r
 simp only at hts hc1
 subst hts
 have hv := hm.vw
 have lo := hv.len Tryz.underlying31
 refine Ks_ (Ka_ (gs := [none, none, none]) fun K1 gK => ?_)
 simp (disch := omega) [hF, hb, ho]
 refine gK _ _ (Ks_ (Ka_ (gs := [none, none, none, none, none, none, none]) fun K1 gK => ?_))
 simp (disch := omega) [hF, lc, hc1]
 refine gK _ _ (Ks_ (Ka_ (gs := [none]) fun K1 gK => ?_))
 simp (disch := omega) []
 refine gK _ _ (Ks_ (Ks_ (Ka_ (gs := [none]) fun K1 gK => ?_)))
 simp (disch := omega) []
 refine gK _ _ ?_
 refine Kl_ (ts.length) (fun j fr st' => ∃ (acc : S), Fs gl [(4, x), (5, .int .i64 re), (6, .str acc), (7, .int .i64 (j : Int))] fr ∧ j ≤ ts.length ∧ q1 = st' ∧ acc.toList = JdR ((ts.take j).map S.toList) ∧ acc.n ≤ 500001 * j) (0) (fun fr st' => ∃ (acc : S), Fs gl [(5, .int .i64 re), (6, .str acc)] fr ∧ q1 = st' ∧ acc.toList = JdR (ts.map S.toList)) ?_ ?_ ?_ ?_
 ·exact ⟨⟨0, 0⟩, by simp [Fs, hF, S.ofList, enc],  Nat.zero_le _, rfl, rfl, Nat.le_refl _⟩
 ·rintro j fr st' ⟨acc, _, hj, rfl, hacc, han⟩
  omega
 ·as_aux_lemma =>
  clear hF
  rintro j fr st' ⟨acc, hF, hj, rfl, hacc, han⟩ K1 gk1 gx1 go1
  simp only [Fs] at hF
  refine Ks_ (Ks_ (Ka_ (gs := [none, none, none, none]) fun K1 gK => ?_))
  simp (disch := omega) [hF, lo]
  refine gK _ _ ?_
  by_cases hlt : j < ts.length
  ·
   refine Kt_ (by simp (disch := omega) [hlt]) ?_
   have xi := hv.ix Tryz.underlying31 z9 (k := .i64) (a := (j : Int)) (by omega) (by omega)
   have xl := hv.ld z9 a9 hlt
   have hn5 := htn _ (List.getElem_mem hlt)
   obtain ⟨z1, a1, t1, m1⟩ := QE (P := Tryz.prog) (T := 9) acc ts[j] (by omega)
   obtain ⟨z2, a2, t2, m2⟩ := QE (P := Tryz.prog) (T := 9) z1 (S.ofList [10]) (by rw [Jb]; simp; omega)
   rw [Jb] at m2
   simp only [List.length_cons, List.length_nil] at m2
   refine Kk_ (Ks_ ?_)
   refine Kb_ fun K2 gn2 gx2 go2 => ?_
   refine Ka_ (gs := [none, none, none, none, none, none, none, none]) fun K1 gK => ?_
   simp (disch := omega) [hF, hlt, xi, xl, a1, a2]
   refine gK _ _ (gn2 _ _ (Ka_ (gs := [none, none, none]) fun K1 gK => ?_))
   simp (disch := omega) [hF]
   refine gK _ _ ?_
   refine gk1 (j + 1) _ _ (by omega) ⟨z2, by simp [Fs, hF], by omega, rfl, by (rw [Jcl S.toList ts hlt, JiP, t2, t1, hacc, S.toList_ofList, List.append_assoc]), by omega⟩
  ·
   refine Kf_ (by simp (disch := omega) [hlt]) ?_
   exact Kx_ (gx1 _ _ ⟨acc, by simp [Fs, hF, hlt], rfl, by (rw [hacc, List.take_of_length_le (by omega)])⟩)
 ·as_aux_lemma =>
  clear hF
  rintro fr st' ⟨acc, hF, rfl, hacc⟩
  simp only [Fs] at hF
  refine Ks_ (Ka_ (gs := [none, none, none, none]) fun K1 gK => ?_)
  simp (disch := omega) [hF]
  refine gK _ _ (Kq_ (gr _ _ ?_))
  simp [JW, Tryz.f8, hF]
  refine hR _ _ ?_
  exact ⟨⟨acc, rfl, hacc⟩, kq.trans k1⟩
end Go.Vm
namespace Go.Vm
open Go Go.Proofs Go.Sy
set_option maxRecDepth 100000
attribute [local simp] OkP Jbg OkS Q0 OkG Ql QG OkD Qf J8 JT Jj Jo vop Js Jy ev evs toV Jn Fr.dsTo Fr.glTo Fr.toNone Jk Jl Jm J6 Qe Jc Jz Jw V.undef JU JO Qn Qo Qt Qp Qu Qv JN Qw Qx Qy J7 Qz Ji Jt JG Jq JI Jp JX J2 Jv JM JP JS JK
theorem JiQ {ts us : List S} (h : ts.map S.toList = us.map S.toList) {i : Nat} (hi : i < ts.length) (hj : i < us.length) : ts[i].same us[i] = true := by
 have e : (ts.map S.toList)[i]? = (us.map S.toList)[i]? := by rw [h]
 rw [List.getElem?_eq_getElem (by simpa using hi), List.getElem?_eq_getElem (by simpa using hj), List.getElem_map, List.getElem_map] at e
 rw [S.same_eq]
 injection e with e
 rw [e]; simp
variable [Memo] [NY] [NO]
set_option maxHeartbeats 4000000 in
set_option maxRecDepth 100000 in
omit [NO] in
theorem JkL (gl : Gl) (st : St) (x y : V) (ts us : List S) (hx : Vw st x ts) (hy : Vw st y us) (h : ts.map S.toList = us.map S.toList) (hl : ts.length ≤ 300) :
  Says Tryz.prog gl 11 [x, y] st (fun v st' => v = .bool true ∧ Keep st st') := by
 refine Qb (NY.no _ rfl rfl rfl _ _) Tryz.func11 rfl (by kernel_rfl) fun R hR K gr gn => ?_
 generalize hfr : JC gl [x, y] = fr
 have hF : Fs gl [(0, x), (1, y)] fr := by subst hfr; simp [Fs]
 simp only [Fs] at hF
 clear hfr
 have hlu : us.length = ts.length := by
  have := congrArg List.length h
  simpa using this.symm
 have lx := hx.len Tryz.underlying31
 have ly := hy.len Tryz.underlying31
 rw [hlu] at ly
 have hne : ∀ kk, Je Tryz.prog kk .neq 3 (.int .i64 (ts.length : Int)) (.int .i64 (ts.length : Int)) = some (.bool false) := fun kk => by rw [Qo]; simp
 refine Ks_ (Ka_ (gs := [none]) fun K1 gK => ?_)
 simp (disch := omega) []
 refine gK _ _ (Ks_ (Ks_ (Ka_ (gs := [none, none, none, none, none]) fun K1 gK => ?_)))
 simp (disch := omega) [hF, lx, ly, hne]
 refine gK _ _ (Kf_ (by simp (disch := omega) []) (Kk_ (Ks_ (Ks_ (Ka_ (gs := [none]) fun K1 gK => ?_)))))
 simp (disch := omega) []
 refine gK _ _ ?_
 refine Kl_ (ts.length) (fun i fr st' => Fs gl [(0, x), (1, y), (5, .int .i64 (i : Int))] fr ∧ i ≤ ts.length ∧ Keep st st') (0) (fun fr st' => Fs gl [] fr ∧ Keep st st') ?_ ?_ ?_ ?_
 ·exact ⟨by simp [Fs, hF], Nat.zero_le _, .refl _⟩
 ·rintro i fr st' ⟨_, hi, hk⟩
  omega
 ·as_aux_lemma =>
  clear hF
  rintro i fr st' ⟨hF, hi, hk⟩ K1 gk1 gx1 go1
  simp only [Fs] at hF
  refine Ks_ (Ks_ (Ka_ (gs := [none, none, none, none]) fun K1 gK => ?_))
  simp (disch := omega) [hF, lx]
  refine gK _ _ ?_
  by_cases hlt : i < ts.length
  ·
   refine Kt_ (by simp (disch := omega) [hlt]) ?_
   obtain ⟨qt, hqt, kt, _⟩ := Jb0 st' 9
   have hju : i < us.length := by omega
   have x1 := hx.ix Tryz.underlying31 z9 (k := .i64) (a := (i : Int)) (by omega) (by omega)
   have y1 := hy.ix Tryz.underlying31 z9 (k := .i64) (a := (i : Int)) (by omega) (by omega)
   have xa := (hx.keep hk).ld z9 a9 hlt
   have xb := (hx.keep (hk.trans kt)).ld z9 a9 hlt
   have ya := (hy.keep hk).ld z9 a9 hju
   have yb := (hy.keep (hk.trans kt)).ld z9 a9 hju
   have hsm := JiQ h hlt hju
   refine Kk_ (Ks_ ?_)
   refine Kb_ fun K2 gn2 gx2 go2 => ?_
   refine Ks_ (Kh_ (b := [0, 0, 3, 7, 0, 0, 48, 112, 255]) (gs := [none, none, none, none, none, none, none, none, none]) fun K1 gK => ?_)
   simp (disch := omega) [hF, hlt, hqt, x1, y1, xb, yb, hsm]
   refine gK _ _ (Kf_ (by simp (disch := omega) []) (Kk_ (gn2 _ _ (Ka_ (gs := [none, none, none]) fun K1 gK => ?_))))
   simp (disch := omega) [hF]
   refine gK _ _ ?_
   refine gk1 (i + 1) _ _ (by omega) ⟨by simp [Fs, hF], by omega, hk.trans kt⟩
  ·
   refine Kf_ (by simp (disch := omega) [hlt]) ?_
   exact Kx_ (gx1 _ _ ⟨by simp [Fs, hF, hlt], hk⟩)
 ·as_aux_lemma =>
  clear hF
  rintro fr st' ⟨hF, hk⟩
  simp only [Fs] at hF
  refine Ks_ (Ka_ (gs := [none]) fun K1 gK => ?_)
  simp (disch := omega) []
  refine gK _ _ (Kq_ (gr _ _ ?_))
  simp [JW, Tryz.f11, hF]
  refine hR _ _ ?_
  exact ⟨rfl, hk⟩
end Go.Vm
namespace Go.Vm
open Go Go.Proofs Go.Sy
set_option maxRecDepth 100000
attribute [local simp] OkG Ql QG OkD Qf J8 JT Jj Jo vop Js Jy ev evs toV Jn Fr.dsTo Fr.glTo Fr.toNone Jk Jl Jm J6 Qe Jc Jz Jw V.undef JU JO Qn Qo Qt Qp Qu Qv JN Qw Qx Qy J7 Qz Ji Jt JG Jq JI Jp JX J2 Jv JM JP JS JK
def wsm (ws : List Ww) : Nat := (ws.map fun w => wsz w.l).sum
def psm (l : List Wp) : Nat := (l.map fun p => 1 + p.t.n / 100).sum
mutual
def msC : Cw → Nat
 | .mk _ _ _ _ ws _ kids => 1001 + wsm ws + Jcg kids
def Jcg : List Cw → Nat
 | [] => 0
 | c :: r => msC c + Jcg r
end
theorem Jfs : ∀ l m : List Cw, Jcg (l ++ m) = Jcg l + Jcg m
 | [], m => by simp [Jcg]
 | c :: l, m => by simp only [List.cons_append, Jcg, Jfs l m]; omega
theorem JhP : ∀ l m : List Cw, JbQ (l ++ m) = JbQ l + JbQ m
 | [], m => by simp [JbQ]
 | c :: l, m => by simp only [List.cons_append, JbQ, JhP l m]; omega
theorem JdS {α : Type} (l : List α) {i : Nat} (h : i < l.length) : l.take (i + 1) = l.take i ++ [l[i]] := by
 rw [List.take_add_one, List.getElem?_eq_getElem h]; rfl
theorem JoZ {ws : List Ww} {i : Nat} (h : i < ws.length) : wsm (ws.take (i + 1)) = wsm (ws.take i) + wsz ws[i].l := by
 rw [JdS ws h]; simp only [wsm, List.map_append, List.map_cons, List.map_nil, List.sum_append, List.sum_cons, List.sum_nil]; omega
theorem Jo0 {l : List Wp} {i : Nat} (h : i < l.length) : psm (l.take (i + 1)) = psm (l.take i) + (1 + l[i].t.n / 100) := by
 rw [JdS l h]; simp only [psm, List.map_append, List.map_cons, List.map_nil, List.sum_append, List.sum_cons, List.sum_nil]; omega
theorem Jog {l : List Cw} {i : Nat} (h : i < l.length) : Jcg (l.take (i + 1)) = Jcg (l.take i) + msC l[i] := by
 rw [JdS l h, Jfs]; simp [Jcg]
theorem Joh {l : List Cw} {i : Nat} (h : i < l.length) : JbQ (l.take (i + 1)) = JbQ (l.take i) + szC l[i] := by
 rw [JdS l h, JhP]; simp [JbQ]
theorem Jnh {l : List Cw} (i : Nat) : Jcg (l.take i) ≤ Jcg l := by
 have := Jfs (l.take i) (l.drop i)
 rw [List.take_append_drop] at this
 omega
theorem Joi {l : List Ww} (i : Nat) : wsm (l.take i) ≤ wsm l := by
 have : wsm (l.take i ++ l.drop i) = wsm (l.take i) + wsm (l.drop i) := by simp only [wsm, List.map_append, List.sum_append]
 rw [List.take_append_drop] at this
 omega
theorem Joj {l : List Wp} (i : Nat) : psm (l.take i) ≤ psm l := by
 have : psm (l.take i ++ l.drop i) = psm (l.take i) + psm (l.drop i) := by simp only [psm, List.map_append, List.sum_append]
 rw [List.take_append_drop] at this
 omega
theorem Jg1 {c : Cw} : ∀ {l : List Cw}, c ∈ l → msC c ≤ Jcg l
 | d :: r, h => by
  rcases List.mem_cons.1 h with rfl | h
  ·simp only [Jcg]; omega
  ·have := Jg1 h
   simp only [Jcg]; omega
theorem JlM {α : Type} {P : α → Prop} {l : List α} {i : Nat} (h : i < l.length) (h1 : ∀ a ∈ l.take i, P a) (h2 : P l[i]) : ∀ a ∈ l.take (i + 1), P a := by
 rw [JdS l h]
 intro a ha
 rcases List.mem_append.1 ha with ha | ha
 ·exact h1 a ha
 ·rw [List.mem_singleton] at ha; rw [ha]; exact h2
theorem Jok (w : Ww) (r : List V) : JD Tryz.prog 41 (.cp (w.cells ++ r)) 0 = some (.cp (w.cells ++ r)) := by kernel_rfl
theorem Jni (w : Ww) (r : List V) : ∀ s, JB Tryz.prog s 39 (.cp (w.cells ++ r)) = some w.x := fun s => by
 simp only [JB, Q5, a39, z39, Ww.cells]; rfl
def SizeV (c : Cw) (v : V) : Prop := ∃ n : Nat, v = .int .i64 (n : Int) ∧ n ≤ msC c ∧ (n ≤ 400 → Fit c ∧ szC c = n)
def JlN [Memo] (gl : Gl) (c : Cw) : Prop := ∀ st : St, Says Tryz.prog gl 5 [.agg c.cells] st fun v st' => SizeV c v ∧ Keep st st'
theorem Jol (n : Nat) (h : n < 1000000000000) : ∀ kk, Je Tryz.prog kk .quo 3 (.int .i64 (n : Int)) (.int .i64 100) = some (.int .i64 ((n / 100 : Nat) : Int)) := fun kk => by
 rw [JhK (by decide), Int.tdiv_eq_ediv_of_nonneg (by omega), Jp (by omega) (by omega)]
 rfl
theorem SizeV.big {c : Cw} : SizeV c (.int .i64 1000) := ⟨1000, rfl, by cases c; simp only [msC]; omega, fun h => by omega⟩
variable [Memo] [NY] [NO]
set_option maxHeartbeats 8000000 in
set_option maxRecDepth 100000 in
omit [NO] in
theorem JkM (gl : Gl) (st : St) (k : Nat) (a : Int) (nm : S) (wv : V) (ws : List Ww) (kv : V) (kids : List Cw) (hw : Row Ww.cells wv ws) (hwok : ∀ w ∈ ws, w.ok) (hkv : Row Cw.cells kv kids) (hnb : nm.n < 1000000000000) (hpb : ∀ w ∈ ws, ∀ p ∈ w.l, p.t.n < 1000000000000) (hlb : ws.length < 1000000000000 ∧ kids.length < 1000000000000) (hms : msC (.mk k a nm wv ws kv kids) ≤ 1000000000000) (ih : ∀ c ∈ kids, JlN gl c) :
  Says Tryz.prog gl 5 [.agg [.int .u8 (k : Int), .int .i64 a, .str nm, wv, kv]] st (fun v st' => SizeV (.mk k a nm wv ws kv kids) v ∧ Keep st st') := by
 refine Qb (NY.no _ rfl rfl rfl _ _) Tryz.func5 rfl (by kernel_rfl) fun R hR K gr gn => ?_
 generalize hfr : JC gl [.agg [.int .u8 (k : Int), .int .i64 a, .str nm, wv, kv]] = fr
 have hF : Fs gl [(0, .agg [.int .u8 (k : Int), .int .i64 a, .str nm, wv, kv])] fr := by subst hfr; simp [Fs]
 simp only [Fs] at hF
 clear hfr
 have ho := Jge (k := k) (a := a) (nm := nm) hw.one hkv.one
 have kq := JL st [.int .u8 (k : Int), .int .i64 a, .str nm, wv, kv] 25
 have hb := JZ st [.int .u8 (k : Int), .int .i64 a, .str nm, wv, kv] 25
 have hC := CB.new (st := st) (k := k) (a := a) (nm := nm) (wv := wv) (kv := kv)
 generalize QM st [.int .u8 (k : Int), .int .i64 a, .str nm, wv, kv] 25 = q0 at kq hb hC
 have lw := hw.len Tryz.underlying22
 have lk := hkv.len Tryz.underlying23
 have ln := vlen9 nm
 have d2 := hC.ld.l2
 have d3 := hC.ld.l3
 have d4 := hC.ld.l4
 obtain ⟨W3, hW3⟩ : ∃ b, decide (300 < ws.length) = b := ⟨_, rfl⟩
 obtain ⟨K3, hK3⟩ : ∃ b, decide (300 < kids.length) = b := ⟨_, rfl⟩
 obtain ⟨N3, hN3⟩ : ∃ b, decide (300 < nm.n) = b := ⟨_, rfl⟩
 have g1 : ∀ kk, Je Tryz.prog kk .gtr 3 (.int .i64 (ws.length : Int)) (.int .i64 300) = some (.bool W3) := fun kk => by rw [← hW3]; exact J7
 have g2 : ∀ kk, Je Tryz.prog kk .gtr 3 (.int .i64 (kids.length : Int)) (.int .i64 300) = some (.bool K3) := fun kk => by rw [← hK3]; exact J7
 have g3 : ∀ kk, Je Tryz.prog kk .gtr 3 (.int .i64 (nm.n : Int)) (.int .i64 300) = some (.bool N3) := fun kk => by rw [← hN3]; exact J7
 refine Ks_ (Ka_ (gs := [none, none]) fun K1 gK => ?_)
 simp (disch := omega) [hF, hb, ho]
 refine gK _ _ (Ks_ (Ka_ (gs := [none]) fun K1 gK => ?_))
 simp (disch := omega) []
 refine gK _ _ (Ks_ (Ks_ (Ka_ (gs := [none, none, none, none, none, some (some 11, false), some (some 11, false), some (some 11, false), some (some 11, false), none, none, some (some 17, false), some (some 17, false), some (some 17, false), some (some 17, false), none]) fun K1 gK => ?_)))
 refine OkG.cutK 11 (fun fr st' => Fs gl [(1, .ptr st.ctr 0), (3, .int .i64 1), (17, .bool (W3 || K3))] fr ∧ q0 = st') (by kernel_rfl) ?_ ?_
 ·as_aux_lemma =>
  intro Kc gKc
  simp only [List.take]
  cases W3 with
  | true =>
   simp (disch := omega) [cg3, lw, d3, g1]
   exact gKc _ _ ⟨by simp [Fs, hF], rfl⟩
  | false =>
   simp (disch := omega) [cg3, cg4, lw, lk, d3, d4, g1, g2]
   exact gKc _ _ ⟨by simp [Fs, hF], rfl⟩
 ·as_aux_lemma =>
  clear hF
  rintro fr st' ⟨hF, rfl⟩
  simp only [Fs] at hF
  simp only [List.drop]
  obtain ⟨O, hO⟩ : ∃ b, (W3 || K3) = b := ⟨_, rfl⟩
  rw [hO] at hF
  cases O with
  | true =>
   simp (disch := omega) [hF]
   refine gK _ _ (Kt_ (by simp (disch := omega) []) (Ks_ (Ka_ (gs := [none]) fun K1 gK => ?_)))
   simp (disch := omega) []
   refine gK _ _ (Kq_ (gr _ _ ?_))
   simp [JW, Tryz.f5, hF]
   refine hR _ _ ?_
   exact ⟨SizeV.big, kq⟩
  | false =>
   simp (disch := omega) [hF, cg2, ln, d2, g3]
   refine gK _ _ ?_
   cases N3 with
   | true =>
    refine Kt_ (by simp (disch := omega) []) (Ks_ (Ka_ (gs := [none]) fun K1 gK => ?_))
    simp (disch := omega) []
    refine gK _ _ (Kq_ (gr _ _ ?_))
    simp [JW, Tryz.f5, hF]
    refine hR _ _ ?_
    exact ⟨SizeV.big, kq⟩
   | false =>
    refine Kf_ (by simp (disch := omega) []) ?_
    have hw3 : ws.length ≤ 300 := by
     rw [Bool.or_eq_false_iff] at hO
     have := of_decide_eq_false (hW3.trans hO.1)
     omega
    have hk3 : kids.length ≤ 300 := by
     rw [Bool.or_eq_false_iff] at hO
     have := of_decide_eq_false (hK3.trans hO.2)
     omega
    have hn3 : nm.n ≤ 300 := by
     have := of_decide_eq_false hN3
     omega
    simp only [msC] at hms
    refine Kk_ (Ks_ (Ks_ (Ka_ (gs := [none]) fun K1 gK => ?_)))
    simp (disch := omega) []
    refine gK _ _ ?_
    refine Kl_ (ws.length) (fun i fr st' => ∃ (n : Nat), Fs gl [(1, .ptr st.ctr 0), (3, .int .i64 (n : Int)), (4, .int .i64 (i : Int))] fr ∧ i ≤ ws.length ∧ Keep q0 st' ∧ n = 1 + wsm (ws.take i) ∧ (∀ w ∈ ws.take i, wFit w.l)) (0) (fun fr st' => ∃ (n : Nat), Fs gl [(1, .ptr st.ctr 0), (3, .int .i64 (n : Int))] fr ∧ Keep q0 st' ∧ n = 1 + wsm ws ∧ (∀ w ∈ ws, wFit w.l)) ?_ ?_ ?_ ?_
    ·exact ⟨1, by simp [Fs, hF], Nat.zero_le _, .refl _, by simp [wsm], by simp⟩
    ·rintro i fr st' ⟨n, _, hi, hk, hn, hfit⟩
     omega
    ·as_aux_lemma =>
     clear hF
     rintro i fr st' ⟨n, hF, hi, hk, hn, hfit⟩ K1 gk1 gx1 go1
     simp only [Fs] at hF
     have gr1 := fun fr st h => go1 AE.ret fr st trivial (gr fr st h)
     have e3 := (hC.keep hk).ld.l3
     refine Ks_ (Ks_ (Ka_ (gs := [none, none, none, none, none]) fun K1 gK => ?_))
     simp (disch := omega) [hF, cg3, e3, lw]
     refine gK _ _ ?_
     by_cases hlt : i < ws.length
     ·
      refine Kt_ (by simp (disch := omega) [hlt]) ?_
      have hmem := List.getElem_mem hlt
      obtain ⟨rr, hi1⟩ := hw.get (fun w _ => w.len2) Tryz.underlying22 z41 hlt
      have hi1 := hi1 .i64
      have fx0 := Jok ws[i] rr
      have lx0 := Jni ws[i] rr
      have hvx : ∀ s, Vp s ws[i].x ws[i].l := Row.vp (hwok _ hmem)
      have hpw := hpb _ hmem
      have hws := JoZ hlt
      have hwl := Joi (l := ws) (i + 1)
      obtain ⟨l, hl⟩ : ∃ l, ws[i].l = l := ⟨_, rfl⟩
      generalize ws[i].cells ++ rr = wr at hi1 fx0 lx0
      generalize ws[i].x = x at lx0 hvx
      rw [hl] at hvx hpw hws
      have hvl := (hvx st').len
      have hwz : wsz l = 1 + psm l := rfl
      obtain ⟨P1, hP1⟩ : ∃ b, decide (100 < l.length) = b := ⟨_, rfl⟩
      have g4 : ∀ kk, Je Tryz.prog kk .gtr 3 (.int .i64 (l.length : Int)) (.int .i64 100) = some (.bool P1) := fun kk => by rw [← hP1]; exact J7
      refine Kk_ (Ks_ ?_)
      refine Kb_ fun K2 gn2 gx2 go2 => ?_
      have gr2 := fun fr st h => go2 AE.ret fr st trivial (gr1 fr st h)
      refine Ks_ (Ks_ (Ka_ (gs := [none, none, none, none, none, none, none, none]) fun K1 gK => ?_))
      simp (disch := omega) [hF, cg3, e3, hlt, hi1, fx0, lx0, hvl, g4]
      refine gK _ _ ?_
      cases P1 with
      | true =>
       refine Kt_ (by simp (disch := omega) []) (Ks_ (Ka_ (gs := [none]) fun K1 gK => ?_))
       simp (disch := omega) []
       refine gK _ _ (Kq_ (gr2 _ _ ?_))
       simp [JW, Tryz.f5, hF]
       refine hR _ _ ?_
       exact ⟨SizeV.big, kq.trans hk⟩
      | false =>
       refine Kf_ (by simp (disch := omega) []) ?_
       have hP : l.length ≤ 100 := by
        have := of_decide_eq_false hP1
        omega
       obtain ⟨st0, rfl⟩ : ∃ s, s = st' := ⟨st', rfl⟩
       refine Kk_ (Ks_ (Ka_ (gs := [none, none, none]) fun K1 gK => ?_))
       simp (disch := omega) [hF]
       refine gK _ _ (Ks_ (Ka_ (gs := [none]) fun K1 gK => ?_))
       simp (disch := omega) []
       refine gK _ _ ?_
       refine Kl_ (l.length) (fun j fr st' => ∃ (m : Nat), Fs gl [(1, .ptr st.ctr 0), (3, .int .i64 (m : Int)), (4, .int .i64 (i : Int)), (5, .int .i64 (j : Int))] fr ∧ j ≤ l.length ∧ st0 = st' ∧ m = n + 1 + psm (l.take j) ∧ (∀ p ∈ l.take j, p.t.n ≤ 2000)) (0) (fun fr st' => ∃ (m : Nat), Fs gl [(1, .ptr st.ctr 0), (3, .int .i64 (m : Int)), (4, .int .i64 (i : Int))] fr ∧ st0 = st' ∧ m = n + 1 + psm l ∧ (∀ p ∈ l, p.t.n ≤ 2000)) ?_ ?_ ?_ ?_
       ·exact ⟨n + 1, by simp [Fs, hF], Nat.zero_le _, rfl, by simp [psm], by simp⟩
       ·rintro j fr st' ⟨m, _, hj, rfl, hm, hpt⟩
        omega
       ·as_aux_lemma =>
        clear hF
        rintro j fr st' ⟨m, hF, hj, rfl, hm, hpt⟩ K3 gk3 gx3 go3
        simp only [Fs] at hF
        have gr3 := fun fr st h => go3 AE.ret fr st trivial (gr2 fr st h)
        refine Ks_ (Ks_ (Ka_ (gs := [none, none, none, none, none, none, none, none, none]) fun K1 gK => ?_))
        simp (disch := omega) [hF, cg3, e3, hi1, fx0, lx0, hvl]
        refine gK _ _ ?_
        by_cases hjt : j < l.length
        ·
         refine Kt_ (by simp (disch := omega) [hjt]) ?_
         obtain ⟨ad, had, hadp⟩ := (hvx st0).get hjt
         obtain ⟨p, hp⟩ : ∃ p, l[j] = p := ⟨_, rfl⟩
         have hpm : p ∈ l := by rw [← hp]; exact List.getElem_mem hjt
         rw [show l.getD j default = p by rw [List.getD_eq_getElem?_getD, List.getElem?_eq_getElem hjt]; exact hp] at hadp
         obtain ⟨_, _, ⟨b1', f1, g1'⟩, _⟩ := hadp.loads
         have had := had .i64
         have hps := Jo0 hjt
         have hpl := Joj (l := l) (j + 1)
         rw [hp] at hps
         have lp := vlen9 p.t
         have hpn := hpw p hpm
         have hq := Jol p.t.n hpn
         obtain ⟨T2, hT2⟩ : ∃ b, decide (2000 < p.t.n) = b := ⟨_, rfl⟩
         have g5 : ∀ kk, Je Tryz.prog kk .gtr 3 (.int .i64 (p.t.n : Int)) (.int .i64 2000) = some (.bool T2) := fun kk => by rw [← hT2]; exact J7
         refine Kk_ (Ks_ ?_)
         refine Kb_ fun K4 gn4 gx4 go4 => ?_
         have gr4 := fun fr st h => go4 AE.ret fr st trivial (gr3 fr st h)
         refine Ks_ (Ks_ (Ka_ (gs := [none, none, none, none, none, none, none, none, none, none, none, none]) fun K1 gK => ?_))
         simp (disch := omega) [hF, cg3, e3, hi1, fx0, lx0, hjt, had, f1, g1', lp, g5]
         refine gK _ _ ?_
         cases T2 with
         | true =>
          refine Kt_ (by simp (disch := omega) []) (Ks_ (Ka_ (gs := [none]) fun K1 gK => ?_))
          simp (disch := omega) []
          refine gK _ _ (Kq_ (gr4 _ _ ?_))
          simp [JW, Tryz.f5, hF]
          refine hR _ _ ?_
          exact ⟨SizeV.big, kq.trans hk⟩
         | false =>
          refine Kf_ (by simp (disch := omega) []) ?_
          have hT : p.t.n ≤ 2000 := by
           have := of_decide_eq_false hT2
           omega
          refine Kk_ (Ka_ (gs := [none, none, none, none, none, none, none, none, none, none, none, none, none, none, none, none]) fun K1 gK => ?_)
          simp (disch := omega) [hF, cg3, e3, hi1, fx0, lx0, had, f1, g1', lp, hq]
          refine gK _ _ (gn4 _ _ (Ka_ (gs := [none, none, none]) fun K1 gK => ?_))
          simp (disch := omega) [hF]
          refine gK _ _ ?_
          refine gk3 (j + 1) _ _ (by omega) ⟨m + 1 + p.t.n / 100, by simp [Fs, hF], by omega, rfl, by omega, JlM hjt hpt (by rw [hp]; exact hT)⟩
        ·
         refine Kf_ (by simp (disch := omega) [hjt]) ?_
         exact Kx_ (gx3 _ _ ⟨m, by simp [Fs, hF, hjt], rfl, by (rw [List.take_of_length_le (by omega)] at hm; exact hm), by (rw [List.take_of_length_le (by omega)] at hpt; exact hpt)⟩)
       ·as_aux_lemma =>
        clear hF
        rintro fr st' ⟨m, hF, rfl, hm, hpt⟩
        simp only [Fs] at hF
        refine gn2 _ _ (Ka_ (gs := [none, none, none]) fun K1 gK => ?_)
        simp (disch := omega) [hF]
        refine gK _ _ ?_
        refine gk1 (i + 1) _ _ (by omega) ⟨m, by simp [Fs, hF], by omega, hk, by omega, JlM hlt hfit (by rw [hl]; exact ⟨hP, hpt⟩)⟩
     ·
      refine Kf_ (by simp (disch := omega) [hlt]) ?_
      exact Kx_ (gx1 _ _ ⟨n, by simp [Fs, hF, hlt], hk, by (rw [List.take_of_length_le (by omega)] at hn; exact hn), by (rw [List.take_of_length_le (by omega)] at hfit; exact hfit)⟩)
    ·as_aux_lemma =>
     clear hF
     rintro fr st' ⟨n, hF, hk, hn, hfit⟩
     simp only [Fs] at hF
     refine Ks_ (Ks_ (Ka_ (gs := [none]) fun K1 gK => ?_))
     simp (disch := omega) []
     refine gK _ _ ?_
     refine Kl_ (kids.length) (fun j fr st' => ∃ (m : Nat), Fs gl [(1, .ptr st.ctr 0), (3, .int .i64 (m : Int)), (6, .int .i64 (j : Int))] fr ∧ j ≤ kids.length ∧ Keep q0 st' ∧ m ≤ 1 + wsm ws + Jcg (kids.take j) ∧ (m ≤ 400 → (∀ c ∈ kids.take j, Fit c) ∧ m = 1 + wsm ws + JbQ (kids.take j))) (0) (fun fr st' => ∃ (m : Nat), Fs gl [(3, .int .i64 (m : Int))] fr ∧ Keep q0 st' ∧ m ≤ 1 + wsm ws + Jcg kids ∧ (m ≤ 400 → (∀ c ∈ kids, Fit c) ∧ m = 1 + wsm ws + JbQ kids)) ?_ ?_ ?_ ?_
     ·exact ⟨n, by simp [Fs, hF], Nat.zero_le _, hk, by omega, by (intro _; exact ⟨by simp, by simp [JbQ]; omega⟩)⟩
     ·rintro j fr st' ⟨m, _, hj, hkj, hm, hmf⟩
      omega
     ·as_aux_lemma =>
      clear hF
      rintro j fr st' ⟨m, hF, hj, hkj, hm, hmf⟩ K5 gk5 gx5 go5
      simp only [Fs] at hF
      have e4 := (hC.keep hkj).ld.l4
      have hle := Jnh (l := kids) j
      by_cases hjt : j < kids.length
      ·
       by_cases h4 : m ≤ 400
       ·
        have hmem := List.getElem_mem hjt
        obtain ⟨rr, hi1⟩ := hkv.get (fun c _ => c.len5) Tryz.underlying23 z25 hjt
        have hi1 := hi1 .i64
        have x2 := JdE kids[j] rr
        have hmm := Jg1 hmem
        obtain ⟨v, s1, hc, ⟨u, rfl, hu, huf⟩, k1⟩ := Says.use (ih _ hmem st')
        have hms1 := Jog hjt
        have hsz1 := Joh hjt
        obtain ⟨hf1, hm1⟩ := hmf h4
        refine Ks_ (Ks_ (Ka_ (gs := [none, none, none, none, none, none, some (some 83, true), some (some 83, true), none]) fun K1 gK => ?_))
        simp (disch := omega) [hF, cg4, e4, lk, hjt, h4]
        refine gK _ _ (Kt_ (by simp (disch := omega) []) (Kk_ (Ks_ ?_)))
        refine Kb_ fun K6 gn6 gx6 go6 => ?_
        refine Ka_ (gs := [none, none, none, none, none, none, none, none, none]) fun K1 gK => ?_
        simp (disch := omega) [hF, cg4, e4, hi1, x2, hc]
        refine gK _ _ (gn6 _ _ (Ka_ (gs := [none, none, none]) fun K1 gK => ?_))
        simp (disch := omega) [hF]
        refine gK _ _ ?_
        refine gk5 (j + 1) _ _ (by omega) ⟨m + u, by simp [Fs, hF], by omega, hkj.trans k1, by omega, by (intro h5; obtain ⟨q1, q2⟩ := huf (by omega); exact ⟨JlM hjt hf1 q1, by omega⟩)⟩
       ·
        refine Ks_ (Ks_ (Ka_ (gs := [none, none, none, none, none, none, some (some 83, true), some (some 83, true), none]) fun K1 gK => ?_))
        simp (disch := omega) [hF, cg4, e4, lk, hjt, h4]
        refine gK _ _ (Kf_ (by simp (disch := omega) []) ?_)
        exact Kx_ (gx5 _ _ ⟨m, by simp [Fs, hF], hkj, by omega, fun h => absurd h h4⟩)
      ·
       refine Ks_ (Ks_ (Ka_ (gs := [none, none, none, none, none, none, some (some 83, true), some (some 83, true), none]) fun K1 gK => ?_))
       simp (disch := omega) [hF, cg4, e4, lk, hjt]
       refine gK _ _ (Kf_ (by simp (disch := omega) []) ?_)
       exact Kx_ (gx5 _ _ ⟨m, by simp [Fs, hF], hkj, by omega, by (rw [List.take_of_length_le (by omega)] at hmf; exact hmf)⟩)
     ·as_aux_lemma =>
      clear hF
      rintro fr st' ⟨m, hF, hkj, hm, hmf⟩
      simp only [Fs] at hF
      refine Ks_ (Ka_ (gs := [none, none]) fun K1 gK => ?_)
      simp (disch := omega) [hF]
      refine gK _ _ (Kq_ (gr _ _ ?_))
      simp [JW, Tryz.f5, hF]
      refine hR _ _ ?_
      refine ⟨⟨m, rfl, by simp only [msC]; omega, fun h => ?_⟩, kq.trans hkj⟩
      obtain ⟨q1, q2⟩ := hmf h
      exact ⟨.mk _ _ _ _ _ _ _ hn3 hw3 hk3 hfit q1, by simp only [szC]; rw [q2]; rfl⟩
end Go.Vm
namespace Go.Vm
open Go Go.Proofs Go.Sy
set_option maxRecDepth 100000
attribute [local simp] OkG Ql QG OkD Qf J8 JT Jj Jo vop Js Jy ev evs toV Jn Fr.dsTo Fr.glTo Fr.toNone Jk Jl Jm J6 Qe Jc Jz Jw V.undef JU JO Qn Qo Qt Qp Qu Qv JN Qw Qx Qy J7 Qz Ji Jt JG Jq JI Jp JX J2 Jv JM JP JS JK
class NA [Memo] : Prop where
 awake : ∀ st : St, (Memo.look 6).run [] st = some (.bool true, st)
theorem JlO {a b : S} (h : a.toList = b.toList) : a.same b = true := by
 rw [S.same_eq, h]; simp
variable [Memo] [NY] [NO] [NA]
omit [NY] [NO] in
theorem JhQ (gl : Gl) (st : St) : Says Tryz.prog gl 6 [] st fun v st' => v = .bool true ∧ st' = st := ⟨_, _, Jfi (NA.awake st), rfl, rfl⟩
omit [NA] in
omit [NO] in
theorem JlP (gl : Gl) (c : Cw) (hok : c.ok) : c.small → msC c ≤ 1000000000000 → JlN gl c := by
 induction hok with
 | mk k a nm wv ws kv kids hk hw hws hkv hks ih =>
 intro hsm hms
 cases hsm with
 | mk _ _ _ _ _ _ _ hn hwl hkl hwz hkz hws' hks' =>
 have hms2 := hms
 simp only [msC] at hms2
 intro st
 exact JkM gl st k a nm wv ws kv kids hw hws hkv (by omega) (fun w hw p hp => by have := Ww.small_part (hws' w hw) p hp; omega) ⟨by omega, by omega⟩ hms (fun c hc => ih c hc (hks' c hc) (by have := Jg1 hc; omega))
set_option maxHeartbeats 8000000 in
set_option maxRecDepth 100000 in
theorem law3 (gl : Gl) {aL : List V} (hh : Hits gl aL) (st : St) (k : Nat) (a : Int) (nm : S) (wv : V) (ws : List Ww) (kv : V) (kids : List Cw) (hok : Cw.ok (.mk k a nm wv ws kv kids)) (hsm : Cw.small (.mk k a nm wv ws kv kids)) (hms : msC (.mk k a nm wv ws kv kids) ≤ 1000000000000) :
  Says Tryz.prog gl 3 [.agg [.int .u8 (k : Int), .int .i64 a, .str nm, wv, kv]] st (fun v _st' => v = .bool true) := by
 refine Qb (NY.no _ rfl rfl rfl _ _) Tryz.func3 rfl (by kernel_rfl) fun R hR K gr gn => ?_
 generalize hfr : JC gl [.agg [.int .u8 (k : Int), .int .i64 a, .str nm, wv, kv]] = fr
 have hF : Fs gl [(0, .agg [.int .u8 (k : Int), .int .i64 a, .str nm, wv, kv])] fr := by subst hfr; simp [Fs]
 simp only [Fs] at hF
 clear hfr
 have ho : ([.int .u8 (k : Int), .int .i64 a, .str nm, wv, kv] : List V).all Ju = true := Cw.ones hok
 have hb := JZ st [.int .u8 (k : Int), .int .i64 a, .str nm, wv, kv] 25
 have hC := CB.new (st := st) (k := k) (a := a) (nm := nm) (wv := wv) (kv := kv)
 generalize QM st [.int .u8 (k : Int), .int .i64 a, .str nm, wv, kv] 25 = q0 at hb hC
 have lc := hC.ld.l
 obtain ⟨v, q1, hc1, ⟨n, rfl, hnm, hfs⟩, k1⟩ := Says.use (JlP gl _ hok hsm hms q0)
 simp only [Cw.cells] at hc1
 obtain ⟨G, hG⟩ : ∃ b, decide (400 < n) = b := ⟨_, rfl⟩
 have eG : ∀ kk, Je Tryz.prog kk .gtr 3 (.int .i64 (n : Int)) (.int .i64 400) = some (.bool G) := fun kk => by rw [← hG]; exact J7
 refine Ks_ (Ka_ (gs := [none, none]) fun K1 gK => ?_)
 simp (disch := omega) [hF, hb, ho]
 refine gK _ _ (Ks_ (Ks_ (Ka_ (gs := [none, none, none]) fun K1 gK => ?_)))
 simp (disch := omega) [hF, lc, hc1, eG]
 refine gK _ _ ?_
 cases G with
 | true =>
  refine Kt_ (by simp (disch := omega) []) ?_
  obtain ⟨v, sa, hca, rfl, hsa⟩ := Says.use (JhQ gl q1)
  refine Ks_ (Ka_ (gs := [none, none]) fun K1 gK => ?_)
  simp (disch := omega) [hF, hca]
  refine gK _ _ (Kq_ (gr _ _ ?_))
  simp [JW, Tryz.f3, hF]
  refine hR _ _ ?_
  rfl
 | false =>
  refine Kf_ (by simp (disch := omega) []) ?_
  have hn4 : n ≤ 400 := by
   have := of_decide_eq_false hG
   omega
  obtain ⟨hfit, hsz⟩ := hfs hn4
  have hsz : szC (.mk k a nm wv ws kv kids) ≤ 450 := by omega
  have hC1 := hC.keep k1
  have l1 := hC1.ld.l
  obtain ⟨v, s2, hc2, ⟨z, rfl, hz2⟩, k2⟩ := Says.use (JkJ gl hh q1 k a nm wv ws kv kids hok hsm hfit hsz)
  have l2 := (hC1.keep k2).ld.l
  obtain ⟨v, s3, hc3, ⟨z', rfl, hz3⟩, k3⟩ := Says.use (JkK gl s2 k a nm wv ws kv kids hok hsm hfit hsz)
  have hzz : z.same z' = true := JlO (by rw [hz2, hz3])
  obtain ⟨r, hr⟩ : ∃ r, Jhu (.mk k a nm wv ws kv kids) = r := ⟨_, rfl⟩
  rw [hr] at hc2 hc3
  obtain ⟨rl, re⟩ := r
  simp only at hc2 hc3
  have en1 : ∀ kk, Je Tryz.prog kk .neq 28 (.int .i64 re) (.int .i64 re) = some (.bool false) := fun kk => by rw [JfW]; simp
  refine Kk_ (Ks_ (Ka_ (gs := [none, none, none, none, none, none, none]) fun K1 gK => ?_))
  simp (disch := omega) [hF, l1, hc2]
  refine gK _ _ (Ks_ (Ka_ (gs := [none, none, none, none, none, none, none]) fun K1 gK => ?_))
  simp (disch := omega) [hF, l2, hc3]
  refine gK _ _ (Ks_ (Ks_ (Ka_ (gs := [none, none, none, none, some (some 30, false), some (some 30, false), some (some 30, false), none]) fun K1 gK => ?_)))
  simp (disch := omega) [hzz, en1]
  refine gK _ _ (Kf_ (by simp (disch := omega) []) (Kk_ (Ks_ (Ks_ (Ka_ (gs := [none]) fun K1 gK => ?_)))))
  simp (disch := omega) []
  refine gK _ _ ?_
  refine Kl_ (2) (fun i fr st' => Fs gl [(1, .ptr st.ctr 0), (7, .int .i64 (i : Int))] fr ∧ i ≤ 2 ∧ CB st' st.ctr k a nm wv kv) (0) (fun fr st' => Fs gl [] fr ∧ True) ?_ ?_ ?_ ?_
  ·exact ⟨by simp [Fs, hF], Nat.zero_le _, hC1.keep (k2.trans k3)⟩
  ·rintro i fr st' ⟨_, hi, hN⟩
   omega
  ·as_aux_lemma =>
   clear hF
   rintro i fr st' ⟨hF, hi, hN⟩ K1 gk1 gx1 go1
   simp only [Fs] at hF
   refine Ks_ (Ks_ (Ka_ (gs := [none, none]) fun K1 gK => ?_))
   simp (disch := omega) [hF]
   refine gK _ _ ?_
   by_cases hlt : i < 2
   ·
    refine Kt_ (by simp (disch := omega) [hlt]) ?_
    have l3 := hN.ld.l
    obtain ⟨v, s4, hc4, ⟨x, ts, rfl, hmx, hts, htl, _⟩, k4⟩ := Says.use (JgQ gl hh st' k a nm wv ws kv kids hok hsm hfit hsz)
    have l4 := (hN.keep k4).ld.l
    obtain ⟨v, s5, hc5, ⟨y, us, rfl, hmy, hus, _, _⟩, k5⟩ := Says.use (Jgu gl s4 k a nm wv ws kv kids hok hsm hfit hsz)
    obtain ⟨v, s6, hc6, rfl, k6⟩ := Says.use (JkL gl s5 x y ts us (hmx.keep k5).vw hmy.vw (hts.trans hus.symm) htl)
    rw [hr] at hc4 hc5
    simp only at hc4 hc5
    refine Kk_ (Ks_ ?_)
    refine Kb_ fun K2 gn2 gx2 go2 => ?_
    refine Ks_ (Ka_ (gs := [none, none, none, none, none, none, none]) fun K1 gK => ?_)
    simp (disch := omega) [hF, hlt, l3, hc4]
    refine gK _ _ (Ks_ (Ka_ (gs := [none, none, none, none, none, none, none]) fun K1 gK => ?_))
    simp (disch := omega) [hF, l4, hc5]
    refine gK _ _ (Ks_ (Ks_ (Ka_ (gs := [none, none, none, none, none, some (some 53, false), some (some 53, false), some (some 53, false), none]) fun K1 gK => ?_)))
    simp (disch := omega) [hF, en1, hc6]
    refine gK _ _ (Kf_ (by simp (disch := omega) []) (Kk_ (Ks_ (Ka_ (gs := [none]) fun K1 gK => ?_))))
    simp (disch := omega) []
    refine gK _ _ ?_
    obtain ⟨lo, hlo⟩ : ∃ n, st'.ctr = n := ⟨_, rfl⟩
    rw [hlo] at hmx
    have hll : st.ctr < lo := by rw [← hlo]; exact hN.lt
    refine Kl_ (ts.length) (fun j fr st' => ∃ (ms : List V), Fs gl [(1, .ptr st.ctr 0), (7, .int .i64 (i : Int)), (8, x), (12, .int .i64 (j : Int))] fr ∧ j ≤ ts.length ∧ ms.length = ts.length ∧ Mine lo 9 st' x ms ∧ CB st' st.ctr k a nm wv kv) (0) (fun fr st' => Fs gl [(1, .ptr st.ctr 0), (7, .int .i64 (i : Int))] fr ∧ CB st' st.ctr k a nm wv kv) ?_ ?_ ?_ ?_
    ·exact ⟨ts.map .str, by simp [Fs, hF], Nat.zero_le _, by simp, hmx.keep (k5.trans k6), hN.keep (k4.trans (k5.trans k6))⟩
    ·rintro j fr st' ⟨ms, _, hj, hml, hmm, hNk⟩
     omega
    ·as_aux_lemma =>
     clear hF
     rintro j fr st' ⟨ms, hF, hj, hml, hmm, hNk⟩ K3 gk3 gx3 go3
     simp only [Fs] at hF
     have lx := hmm.len Tryz.underlying31
     rw [hml] at lx
     refine Ks_ (Ks_ (Ka_ (gs := [none, none, none, none]) fun K1 gK => ?_))
     simp (disch := omega) [hF, lx]
     refine gK _ _ ?_
     by_cases hlk : j < ts.length
     ·
      refine Kt_ (by simp (disch := omega) [hlk]) ?_
      have x1 := hmm.ix Tryz.underlying31 z9 (k := .i64) (a := (j : Int)) (by omega) (by omega)
      obtain ⟨s7, w7, low7, m7⟩ := hmm.set z9 (i := j) (v := .str (S.ofList [115, 112, 111, 105, 108, 116])) (by omega) rfl
      refine Kk_ (Ks_ ?_)
      refine Kb_ fun K4 gn4 gx4 go4 => ?_
      refine Ka_ (gs := [none, none, none, none]) fun K1 gK => ?_
      simp (disch := omega) [hF, hlk, x1, w7]
      refine gK _ _ (gn4 _ _ (Ka_ (gs := [none, none, none]) fun K1 gK => ?_))
      simp (disch := omega) [hF]
      refine gK _ _ ?_
      refine gk3 (j + 1) _ _ (by omega) ⟨ms.set j (.str (S.ofList [115, 112, 111, 105, 108, 116])), by simp [Fs, hF], by omega, by simpa using hml, m7, ⟨by rw [low7.box _ hll]; exact hNk.b, Nat.lt_of_lt_of_le hNk.lt low7.ctr⟩⟩
     ·
      refine Kf_ (by simp (disch := omega) [hlk]) ?_
      exact Kx_ (gx3 _ _ ⟨by simp [Fs, hF, hlk], hNk⟩)
    ·as_aux_lemma =>
     clear hF
     rintro fr st' ⟨hF, hNk⟩
     simp only [Fs] at hF
     refine gn2 _ _ (Ka_ (gs := [none, none, none]) fun K1 gK => ?_)
     simp (disch := omega) [hF]
     refine gK _ _ ?_
     refine gk1 (i + 1) _ _ (by omega) ⟨by simp [Fs, hF], by omega, hNk⟩
   ·
    refine Kf_ (by simp (disch := omega) [hlt]) ?_
    exact Kx_ (gx1 _ _ ⟨by simp [Fs, hF, hlt], trivial⟩)
  ·as_aux_lemma =>
   clear hF
   rintro fr st' ⟨hF, _⟩
   simp only [Fs] at hF
   obtain ⟨v, sa, hca, rfl, hsa⟩ := Says.use (JhQ gl st')
   refine Ks_ (Ka_ (gs := [none, none]) fun K1 gK => ?_)
   simp (disch := omega) [hF, hca]
   refine gK _ _ (Kq_ (gr _ _ ?_))
   simp [JW, Tryz.f3, hF]
   refine hR _ _ ?_
   rfl
end Go.Vm
namespace Go.Vm
open Go Go.Proofs Go.Sy
set_option maxRecDepth 100000
def JpA : List V := [.str (S.ofList [38, 38]), .str (S.ofList [124, 124]), .str (S.ofList [59, 59]), .str (S.ofList [60, 60]), .str (S.ofList [62, 62]), .str (S.ofList [59]), .str (S.ofList [38]), .str (S.ofList [124]), .str (S.ofList [60]), .str (S.ofList [62]), .str (S.ofList [40]), .str (S.ofList [41])]
def Jo1 : List V := [.str (S.ofList [116, 104, 101, 110]), .str (S.ofList [101, 108, 105, 102]), .str (S.ofList [101, 108, 115, 101]), .str (S.ofList [102, 105]), .str (S.ofList [100, 111]), .str (S.ofList [100, 111, 110, 101]), .str (S.ofList [125])]
noncomputable def prGl : Gl := ((.nil : Gl).put 1 Jo1).put 0 JpA
theorem JdT : Tryz.prog.follows .mixedOrders = true := by kernel_rfl
theorem Je7 : prGl.allB (fun l => l.all (Jac true 50)) = true := by kernel_rfl
def aLs : List V := (List.range 256).map fun i => .bool (specials.elem (UInt8.ofNat i))
abbrev setEnt : Ent := ⟨147, [.str specialS], .tup [.agg aLs, .bool true]⟩
abbrev badEnt : Ent := ⟨145, [.str specialS, .int .i32 65533], .int .i64 (-1)⟩
abbrev awakeEnt : Ent := ⟨6, [], .bool true⟩
theorem set_ent : EntOk Tryz.prog prGl setEnt :=
 JcB JdT Jdg Je7 (n := 1000000) (by kernel_rfl) (by kernel_rfl) (by kernel_rfl)
theorem bad_ent : EntOk Tryz.prog prGl badEnt :=
 JcB JdT Jdg Je7 (n := 1000000) (by kernel_rfl) (by kernel_rfl) (by kernel_rfl)
theorem awake_ent : EntOk Tryz.prog prGl awakeEnt :=
 JcB JdT Jdg Je7 (n := 1000000) (by kernel_rfl) (by kernel_rfl) (by kernel_rfl)
end Go.Vm
namespace Go.Vm
open Go Go.RowKit
mutual
def JbC (ρ : Nat → Nat) : V → V
 | .ms id off n z cap => .ms (ρ id) off n z cap
 | .ptr id off => .ptr (ρ id) off
 | .yld id => .yld (ρ id)
 | .mapp id => .mapp (ρ id)
 | .sl n cs ex => .sl n (Ja3 ρ cs) ex
 | .cp cs => .cp (Ja3 ρ cs)
 | .agg cs => .agg (Ja3 ρ cs)
 | .tup cs => .tup (Ja3 ρ cs)
 | .fn f a b => .fn f (Ja3 ρ a) (Ja3 ρ b)
 | .iface t v => .iface t (JbC ρ v)
 | .bool b => .bool b
 | .int k n => .int k n
 | .str s => .str s
 | .nilp => .nilp | .nils => .nils | .nilf => .nilf | .nili => .nili | .nilm => .nilm
def Ja3 (ρ : Nat → Nat) : List V → List V
 | [] => []
 | v :: r => JbC ρ v :: Ja3 ρ r
end
mutual
def inV (p : Bool) (K : Nat → Bool) : V → Bool
 | .ms id _ _ _ _ => K id
 | .ptr id _ => K id
 | .yld id => K id
 | .mapp id => K id
 | .sl _ cs _ => p && Jch p K cs
 | .cp cs => p && Jch p K cs
 | .agg cs => Jch p K cs
 | .tup cs => Jch p K cs
 | .fn _ a b => Jch p K a && Jch p K b
 | .iface _ v => inV p K v
 | _ => true
def Jch (p : Bool) (K : Nat → Bool) : List V → Bool
 | [] => true
 | v :: r => inV p K v && Jch p K r
end
def JdU (ρ : Nat → Nat) : Bx → Bx
 | .cells l e full fz => .cells (Ja3 ρ l) e full fz
 | .entries l c => .entries (l.map fun (k, v, n) => (JbC ρ k, JbC ρ v, n)) c
 | x => x
def inB (p : Bool) (K : Nat → Bool) : Bx → Bool
 | .cells l _ _ _ => Jch p K l
 | .mark _ => true
 | .iter _ _ => true
 | .entries l _ => l.all fun (k, v, _) => inV p K k && inV p K v
 | _ => false
mutual
theorem R.renA {p : Bool} {K : Nat → Bool} {ρ : Nat → Nat} {g g' : Gh} (hb : ∀ i b, K i = true → g.box i = some b → g'.box (ρ i) = some b) (hp : p = true → ∀ b o c, g.pub b o = some c → g'.pub b o = some c) : ∀ (v : V) (c : Value), inV p K v = true → R g v c → R g' (JbC ρ v) c
 | .bool b, c, _, hr => by cases hr; exact .bool b
 | .int k n, c, _, hr => by cases hr; exact .int k n
 | .str l, c, _, hr => by cases hr; exact .str l
 | .nilp, c, _, hr => by cases hr; exact .nilp
 | .nils, c, _, hr => by cases hr; exact .nils
 | .nilf, c, _, hr => by cases hr; exact .nilf
 | .nili, c, _, hr => by cases hr; exact .nili
 | .nilm, c, _, hr => by cases hr; exact .nilm
 | .sl n cells ex, c, h, hr => by
  simp only [inV, Bool.and_eq_true] at h
  cases hr with
  | sl n cells ex b o cap l hr hpb hc ht => exact .sl n _ ex b o cap l (Rs.renA hb hp cells l h.2 hr) (fun i c hi => hp h.1 _ _ _ (hpb i c hi)) hc ht
  | sl0 ex a cap he => exact .sl0 ex a cap he
 | .ms id off n z cap, c, h, hr => by
  cases hr with
  | ms id off n z cap b o bs co c hbx hc ho hk => exact .ms _ off n z cap b o bs co c (hb _ _ h hbx) hc ho hk
 | .cp cells, c, h, hr => by
  simp only [inV, Bool.and_eq_true] at h
  cases hr with
  | cp cells b o l hr hpb => exact .cp _ b o l (Rs.renA hb hp cells l h.2 hr) fun i c hi => hp h.1 _ _ _ (hpb i c hi)
 | .ptr id off, c, h, hr => by
  cases hr with
  | ptr id off b o bs hbx => exact .ptr _ off b o bs (hb _ _ h hbx)
 | .agg cells, c, h, hr => by
  cases hr with
  | agg cells l hr => exact .agg _ l (Rs.renA hb hp cells l h hr)
 | .tup vs, c, h, hr => by
  cases hr with
  | tup vs l hr => exact .tup _ l (Rs.renA hb hp vs l h hr)
 | .fn f a b, c, h, hr => by
  simp only [inV, Bool.and_eq_true] at h
  cases hr with
  | fn f a b la lb ha hb' => exact .fn f _ _ la lb (Rs.renA hb hp a la h.1 ha) (Rs.renA hb hp b lb h.2 hb')
 | .yld id, c, h, hr => by
  cases hr with
  | yld id b o bs hbx => exact .yld _ b o bs (hb _ _ h hbx)
 | .mapp id, c, h, hr => by
  cases hr with
  | mapp id b o bs hbx => exact .mapp _ b o bs (hb _ _ h hbx)
 | .iface t x, c, h, hr => by
  cases hr with
  | iface t x y hx => exact .iface t _ y (R.renA hb hp x y h hx)
theorem Rs.renA {p : Bool} {K : Nat → Bool} {ρ : Nat → Nat} {g g' : Gh} (hb : ∀ i b, K i = true → g.box i = some b → g'.box (ρ i) = some b) (hp : p = true → ∀ b o c, g.pub b o = some c → g'.pub b o = some c) : ∀ (l : List V) (cs : List Value), Jch p K l = true → Rs g l cs → Rs g' (Ja3 ρ l) cs
 | [], cs, _, hr => by cases hr; exact .nil
 | v :: r, cs, h, hr => by
  simp only [Jch, Bool.and_eq_true] at h
  cases hr with
  | cons _ c _ cs h1 h2 => exact .cons _ c _ cs (R.renA hb hp v c h.1 h1) (Rs.renA hb hp r cs h.2 h2)
end
theorem R.ren {p : Bool} {K : Nat → Bool} {ρ : Nat → Nat} {g g' : Gh} (hb : ∀ i b, K i = true → g.box i = some b → g'.box (ρ i) = some b) (hp : p = true → ∀ b o c, g.pub b o = some c → g'.pub b o = some c) {v : V} {c : Value} (h : inV p K v = true) (hr : R g v c) : R g' (JbC ρ v) c := R.renA hb hp v c h hr
theorem Rs.ren {p : Bool} {K : Nat → Bool} {ρ : Nat → Nat} {g g' : Gh} (hb : ∀ i b, K i = true → g.box i = some b → g'.box (ρ i) = some b) (hp : p = true → ∀ b o c, g.pub b o = some c → g'.pub b o = some c) {l : List V} {cs : List Value} (h : Jch p K l = true) (hr : Rs g l cs) : Rs g' (Ja3 ρ l) cs := Rs.renA hb hp l cs h hr
theorem BR.ren {p : Bool} {K : Nat → Bool} {ρ : Nat → Nat} {g g' : Gh} (hb : ∀ i b, K i = true → g.box i = some b → g'.box (ρ i) = some b) (hp : p = true → ∀ b o c, g.pub b o = some c → g'.pub b o = some c) {o bs : Nat} {x : Bx} {m : Obj} (hx : inB p K x = true) (h : BR g o bs x m) : BR g' o bs (JdU ρ x) m := by
 cases h with
 | cells cs e full fz pre mid rest f ho hr hs hf hz => exact .cells _ e full fz pre mid rest f ho (Rs.ren hb hp hx hr) hs hf hz
 | loop => simp [inB] at hx
 | opened => exact .opened
 | shut => exact .shut
 | entries l clock es h =>
  refine .entries _ _ _ ⟨by rw [List.length_map]; exact h.1, fun i k v n hi => ?_⟩
  rw [List.getElem?_map] at hi
  cases hl : l[i]? with
  | none => rw [hl] at hi; cases hi
  | some q =>
   rw [hl] at hi
   simp only [Option.map_some, Option.some.injEq, Prod.mk.injEq] at hi
   obtain ⟨rfl, rfl, rfl⟩ := hi
   obtain ⟨e, h1, h2, h3, h4⟩ := h.2 i q.1 q.2.1 q.2.2 hl
   simp only [inB, List.all_eq_true] at hx
   have := hx q (List.mem_of_getElem? hl)
   simp only [Bool.and_eq_true] at this
   exact ⟨e, h1, R.ren hb hp this.1 h2, R.ren hb hp this.2 h3, h4⟩
 | iter s pos ho => exact .iter s pos ho
mutual
theorem Je8 {p : Bool} {K : Nat → Bool} {ρ τ : Nat → Nat} (h : ∀ i, K i = true → τ (ρ i) = i) : ∀ v : V, inV p K v = true → JbC τ (JbC ρ v) = v
 | .ms id off n z cap, hv => by simp only [JbC, h id hv]
 | .ptr id off, hv => by simp only [JbC, h id hv]
 | .yld id, hv => by simp only [JbC, h id hv]
 | .mapp id, hv => by simp only [JbC, h id hv]
 | .sl n cs ex, hv => by simp only [inV, Bool.and_eq_true] at hv; simp only [JbC, Ja4 h cs hv.2]
 | .cp cs, hv => by simp only [inV, Bool.and_eq_true] at hv; simp only [JbC, Ja4 h cs hv.2]
 | .agg cs, hv => by simp only [JbC, Ja4 h cs hv]
 | .tup cs, hv => by simp only [JbC, Ja4 h cs hv]
 | .fn f a b, hv => by simp only [inV, Bool.and_eq_true] at hv; simp only [JbC, Ja4 h a hv.1, Ja4 h b hv.2]
 | .iface t v, hv => by simp only [JbC, Je8 h v hv]
 | .bool b, _ => rfl
 | .int k n, _ => rfl
 | .str s, _ => rfl
 | .nilp, _ => rfl
 | .nils, _ => rfl
 | .nilf, _ => rfl
 | .nili, _ => rfl
 | .nilm, _ => rfl
theorem Ja4 {p : Bool} {K : Nat → Bool} {ρ τ : Nat → Nat} (h : ∀ i, K i = true → τ (ρ i) = i) : ∀ l : List V, Jch p K l = true → Ja3 τ (Ja3 ρ l) = l
 | [], _ => rfl
 | v :: r, hv => by
  simp only [Jch, Bool.and_eq_true] at hv
  simp only [Ja3, Je8 h v hv.1, Ja4 h r hv.2]
end
mutual
theorem Jg2 {p : Bool} {K K' : Nat → Bool} {ρ : Nat → Nat} (h : ∀ i, K i = true → K' (ρ i) = true) : ∀ v : V, inV p K v = true → inV p K' (JbC ρ v) = true
 | .ms id off n z cap, hv => h id hv
 | .ptr id off, hv => h id hv
 | .yld id, hv => h id hv
 | .mapp id, hv => h id hv
 | .sl n cs ex, hv => by simp only [inV, JbC, Bool.and_eq_true] at hv ⊢; exact ⟨hv.1, JbD h cs hv.2⟩
 | .cp cs, hv => by simp only [inV, JbC, Bool.and_eq_true] at hv ⊢; exact ⟨hv.1, JbD h cs hv.2⟩
 | .agg cs, hv => JbD h cs hv
 | .tup cs, hv => JbD h cs hv
 | .fn f a b, hv => by simp only [inV, JbC, Bool.and_eq_true] at hv ⊢; exact ⟨JbD h a hv.1, JbD h b hv.2⟩
 | .iface t v, hv => Jg2 h v hv
 | .bool b, _ => rfl
 | .int k n, _ => rfl
 | .str s, _ => rfl
 | .nilp, _ => rfl
 | .nils, _ => rfl
 | .nilf, _ => rfl
 | .nili, _ => rfl
 | .nilm, _ => rfl
theorem JbD {p : Bool} {K K' : Nat → Bool} {ρ : Nat → Nat} (h : ∀ i, K i = true → K' (ρ i) = true) : ∀ l : List V, Jch p K l = true → Jch p K' (Ja3 ρ l) = true
 | [], _ => rfl
 | v :: r, hv => by
  simp only [Jch, Ja3, Bool.and_eq_true] at hv ⊢
  exact ⟨Jg2 h v hv.1, JbD h r hv.2⟩
end
theorem Jnj {p : Bool} {K K' : Nat → Bool} {ρ : Nat → Nat} (h : ∀ i, K i = true → K' (ρ i) = true) {x : Bx} (hx : inB p K x = true) : inB p K' (JdU ρ x) = true := by
 cases x with
 | cells l e f z => exact JbD h l hx
 | loop => cases hx
 | mark b => rfl
 | iter s n => rfl
 | entries l c =>
  simp only [inB, JdU, List.all_eq_true, List.mem_map] at hx ⊢
  rintro q ⟨q0, hq, rfl⟩
  have := hx q0 hq
  simp only [Bool.and_eq_true] at this ⊢
  exact ⟨Jg2 h _ this.1, Jg2 h _ this.2⟩
theorem JlQ {p : Bool} {K : Nat → Bool} {ρ τ : Nat → Nat} (h : ∀ i, K i = true → τ (ρ i) = i) {x : Bx} (hx : inB p K x = true) : JdU τ (JdU ρ x) = x := by
 cases x with
 | cells l e f z => simp only [JdU, Ja4 h l hx]
 | loop => cases hx
 | mark b => rfl
 | iter s n => rfl
 | entries l c =>
  simp only [JdU, List.map_map]
  congr 1
  rw [List.map_congr_left (g := id), List.map_id]
  intro q hq
  simp only [inB, List.all_eq_true] at hx
  have := hx q hq
  simp only [Bool.and_eq_true] at this
  simp only [Function.comp, Je8 h _ this.1, Je8 h _ this.2, id]
structure Moves (s0 s1 : St) (A K : Nat → Bool) (ρ : Nat → Nat) (st st' : St) : Prop where
 small : ∀ i, A i = true → i < s0.ctr ∧ s0.box.get i ≠ none
 all : ∀ i x, s0.box.get i = some x → A i = true ∧ inB true A x = true ∧ st.box.get (ρ i) = some (JdU ρ x)
 low : ∀ i, A i = true → ρ i < st.ctr
 inj : ∀ i j, (A i = true ∨ K i = true) → (A j = true ∨ K j = true) → ρ i = ρ j → i = j
 high : ∀ i, s0.ctr ≤ i → K i = true → st.ctr ≤ ρ i ∧ ρ i < st'.ctr
 kept : ∀ i x, K i = true → s1.box.get i = some x → inB false K x = true ∧ st'.box.get (ρ i) = some (JdU ρ x)
 gone : ∀ i, A i = true → (K i = false ∨ s1.box.get i = none) → st'.box.get (ρ i) = none
 kA : ∀ i, i < s0.ctr → K i = true → A i = true
 rest : ∀ j, j < st.ctr → (∀ i, A i = true → ρ i ≠ j) → st'.box.get j = st.box.get j
 new : ∀ j x, st.ctr ≤ j → st'.box.get j = some x → ∃ i y, s0.ctr ≤ i ∧ K i = true ∧ ρ i = j ∧ s1.box.get i = some y ∧ x = JdU ρ y
 ctr : st.ctr ≤ st'.ctr
theorem Jo2 {P : Program} [Memo] (hm : P.follows .mixedOrders = true) (hmemo : ∀ base, Jdw P base) {gl : Gl} (hon : Memo.only gl) (hgl0 : gl.allB (fun l => l.all (Jac true 50)) = true) {f N : Nat} {args0 : List V} {v0 : V} {s0 s1 : St}
  (hx : X P N (.call gl f args0) s0 = .call (.val v0 s1)) {A K : Nat → Bool} {ρ : Nat → Nat} {st st' : St} (M : Moves s0 s1 A K ρ st st') (ha : Jch true A args0 = true) (hv : inV false K v0 = true)
  (hctr : ∀ i x, s0.box.get i = some x → i < s0.ctr) (base : Nat) (g : Gh) (w : World) (cargs : List Value) (hgl : GlV g gl) (hi : Inv base g st.abs w) (hrs : Rs g (Ja3 ρ args0) cargs) :
  Calls P f ⟨cargs⟩ w (CallPost base g st.abs w (.val (JbC ρ v0) st')) := by
 have hs := sound hm base (hmemo _) N gl (.f f) args0 s0
 have hih : ihCall (X P N) gl (.f f) args0 s0 = .val v0 s1 := by simp [ihCall, hx]
 rw [hih] at hs
 let g0 : Gh := ⟨g.pub, fun i => match A i with | true => g.box (ρ i) | false => none⟩
 have hg0 : ∀ i, A i = true → g0.box i = g.box (ρ i) := fun i h => by simp only [g0, h]
 obtain ⟨τ, hτ⟩ : ∃ τ : Nat → Nat, ∀ i, A i = true → τ (ρ i) = i := by
  classical
  exact ⟨fun j => if h : ∃ i, A i = true ∧ ρ i = j then Classical.choose h else 0, fun i hi => by
   have h : ∃ i', A i' = true ∧ ρ i' = ρ i := ⟨i, hi, rfl⟩
   show (if h : ∃ i', A i' = true ∧ ρ i' = ρ i then Classical.choose h else 0) = i
   rw [dif_pos h]
   exact M.inj _ _ (.inl (Classical.choose_spec h).1) (.inl hi) (Classical.choose_spec h).2⟩
 obtain ⟨A', hA'⟩ : ∃ A' : Nat → Bool, ∀ j, A' j = true ↔ ∃ i, A i = true ∧ ρ i = j := by
  classical
  exact ⟨fun j => decide (∃ i, A i = true ∧ ρ i = j), fun j => decide_eq_true_iff⟩
 have hfwd : ∀ i, A i = true → A' (ρ i) = true := fun i hi => (hA' _).2 ⟨i, hi, rfl⟩
 have back : ∀ j b, A' j = true → g.box j = some b → g0.box (τ j) = some b := fun j b hj hb => by
  obtain ⟨i, hi, rfl⟩ := (hA' j).1 hj
  rw [hτ i hi, hg0 i hi]; exact hb
 have hpub : true = true → ∀ b o c, g.pub b o = some c → g0.pub b o = some c := fun _ _ _ _ h => h
 have ra : Rs g0 args0 cargs := by
  have := Rs.ren back hpub (JbD hfwd args0 ha) hrs
  rwa [Ja4 hτ args0 ha] at this
 have i0 : Inv base g0 s0.abs w := by
  refine ⟨hi.size, hi.pub, fun i x h => ?_, fun i b o bs h => ?_, fun i j x y b o bs o' bs' h1 h2 h3 h4 => ?_, fun k hk => ?_⟩
  ·obtain ⟨hAi, hin, hst⟩ := M.all i x h
   obtain ⟨b, o, bs, m, q1, q2, q3⟩ := hi.box (ρ i) (JdU ρ x) hst
   refine ⟨b, o, bs, m, by rw [hg0 i hAi]; exact q1, q2, ?_⟩
   have := BR.ren back hpub (Jnj hfwd hin) q3
   rwa [JlQ hτ hin] at this
  ·cases hAi : A i with
   | false => simp only [g0, hAi] at h; cases h
   | true => rw [hg0 i hAi] at h; exact hi.boxat _ _ _ _ h
  ·obtain ⟨hAi, _, hsi⟩ := M.all i x h1
   obtain ⟨hAj, _, hsj⟩ := M.all j y h2
   rw [hg0 i hAi] at h3
   rw [hg0 j hAj] at h4
   exact M.inj i j (.inl hAi) (.inl hAj) (hi.boxinj _ _ _ _ _ _ _ _ _ hsi hsj h3 h4)
  ·have hAk : A k = false := by
    cases hAk : A k with
    | false => rfl
    | true => have := (M.small k hAk).1; have hk : s0.ctr ≤ k := hk; omega
   refine ⟨by simp only [g0, hAk], ?_⟩
   show s0.box.get k = none
   cases hb : s0.box.get k with
   | none => rfl
   | some x => have := hctr k x hb; have hk : s0.ctr ≤ k := hk; omega
 have hglr : GlR g0 gl := ⟨fun k cs hk => by
  obtain ⟨l, h1, h2⟩ := hgl k cs hk
  exact ⟨l, Rs.carry (fun v c hv => R.carry (p := true) (g := g) (g' := g0) (fun _ b o c h => h) 50 v c hv) (Tr.allB_get _ gl k cs hgl0 hk) h1, h2⟩, hon⟩
 refine (hs g0 w cargs hglr i0 ra).mono ?_
 rintro en w' ⟨g1, c, rfl, h1, h2, h3⟩
 have hbox1 : ∀ i, A i = true → g1.box i = g.box (ρ i) := fun i hAi => by
  obtain ⟨hlt, hne⟩ := M.small i hAi
  cases hs0 : s0.box.get i with
  | none => exact absurd hs0 hne
  | some x =>
   obtain ⟨b, o, bs, m, q1, _, _⟩ := i0.box i x hs0
   rw [h3.le.box _ _ q1, ← q1, hg0 i hAi]
 obtain ⟨inv, hinv⟩ : ∃ inv : Nat → Option Nat, (∀ i, s0.ctr ≤ i → K i = true → inv (ρ i) = some i) ∧ ∀ j i, inv j = some i → s0.ctr ≤ i ∧ K i = true ∧ ρ i = j := by
  classical
  refine ⟨fun j => if h : ∃ i, s0.ctr ≤ i ∧ K i = true ∧ ρ i = j then some (Classical.choose h) else none, fun i hc hK => ?_, fun j i h => ?_⟩
  ·have h : ∃ i', s0.ctr ≤ i' ∧ K i' = true ∧ ρ i' = ρ i := ⟨i, hc, hK, rfl⟩
   show (if h : ∃ i', s0.ctr ≤ i' ∧ K i' = true ∧ ρ i' = ρ i then some (Classical.choose h) else none) = some i
   rw [dif_pos h]
   exact congrArg some (M.inj _ _ (.inr (Classical.choose_spec h).2.1) (.inr hK) (Classical.choose_spec h).2.2)
  ·by_cases hh : ∃ i, s0.ctr ≤ i ∧ K i = true ∧ ρ i = j
   ·have h : (if h : ∃ i, s0.ctr ≤ i ∧ K i = true ∧ ρ i = j then some (Classical.choose h) else none) = some i := h
    rw [dif_pos hh] at h
    obtain rfl := Option.some.inj h
    exact Classical.choose_spec hh
   ·have h : (if h : ∃ i, s0.ctr ≤ i ∧ K i = true ∧ ρ i = j then some (Classical.choose h) else none) = some i := h
    rw [dif_neg hh] at h
    cases h
 let g2 : Gh := ⟨g.pub, fun j => if j < st.ctr then g.box j else match inv j with | some i => g1.box i | none => none⟩
 have hg2l : ∀ j, j < st.ctr → g2.box j = g.box j := fun j hj => by simp only [g2, if_pos hj]
 have hg2h : ∀ i, s0.ctr ≤ i → K i = true → g2.box (ρ i) = g1.box i := fun i hc hK => by
  have := (M.high i hc hK).1
  simp only [g2, if_neg (show ¬ ρ i < st.ctr by omega), hinv.1 i hc hK]
 have hK2 : ∀ i b, K i = true → g1.box i = some b → g2.box (ρ i) = some b := fun i b hK hb => by
  by_cases hc : i < s0.ctr
  ·have hA := M.kA i hc hK
   rw [hg2l _ (M.low i hA), ← hbox1 i hA]; exact hb
  ·rw [hg2h i (by omega) hK]; exact hb
 have hlt : ∀ i b, g.box i = some b → i < st.ctr := fun i b h => by
  by_cases hc : i < st.ctr
  ·exact hc
  ·have := (hi.fresh i (by show st.ctr ≤ i; omega)).1
   rw [this] at h; cases h
 have hle : g.le g2 := ⟨fun _ _ _ h => h, fun i b h => by rw [hg2l i (hlt i b h)]; exact h⟩
 have hnp : false = true → ∀ b o c, g1.pub b o = some c → g2.pub b o = some c := fun h => by cases h
 have hown0 : ∀ b, Own g0 s0.abs b → Own g st.abs b := fun b ⟨i, x, o, bs, q1, q2⟩ => by
  obtain ⟨hAi, _, hst⟩ := M.all i x q1
  rw [hg0 i hAi] at q2
  exact ⟨ρ i, _, o, bs, hst, q2⟩
 have hcase : ∀ j x, st'.box.get j = some x → (j < st.ctr ∧ (∀ i, A i = true → ρ i ≠ j) ∧ st.box.get j = some x) ∨ ∃ i y, K i = true ∧ ρ i = j ∧ s1.box.get i = some y ∧ x = JdU ρ y := fun j x h => by
  by_cases hj : j < st.ctr
  ·by_cases him : ∃ i, A i = true ∧ ρ i = j
   ·obtain ⟨i, hAi, rfl⟩ := him
    cases hK : K i with
    | false => rw [M.gone i hAi (.inl hK)] at h; cases h
    | true =>
     cases hs1 : s1.box.get i with
     | none => rw [M.gone i hAi (.inr hs1)] at h; cases h
     | some y =>
      rw [(M.kept i y hK hs1).2] at h
      exact .inr ⟨i, y, hK, rfl, hs1, (Option.some.inj h).symm⟩
   ·have hne : ∀ i, A i = true → ρ i ≠ j := fun i hA he => him ⟨i, hA, he⟩
    rw [M.rest j hj hne] at h
    exact .inl ⟨hj, hne, h⟩
  ·obtain ⟨i, y, hc, hK, hr, hs1, hxe⟩ := M.new j x (by omega) h
   exact .inr ⟨i, y, hK, hr, hs1, hxe⟩
 have hnotown : ∀ j x b o bs, j < st.ctr → (∀ i, A i = true → ρ i ≠ j) → st.box.get j = some x → g.box j = some (b, o, bs) → ¬ Own g0 s0.abs b := fun j x b o bs hj hne hst hb ⟨i, y, o', bs', q1, q2⟩ => by
  obtain ⟨hAi, _, hsti⟩ := M.all i y q1
  rw [hg0 i hAi] at q2
  exact hne i hAi (hi.boxinj _ _ _ _ _ _ _ _ _ hsti hst q2 hb)
 refine ⟨g2, c, rfl, R.ren hK2 hnp hv h1, ⟨h2.size, fun b o c hc => h2.pub b o c (h3.le.pub b o c hc), fun j x h => ?_, fun j b o bs h => ?_, fun i j x y b o bs o' bs' q1 q2 q3 q4 => ?_, fun k hk => ?_⟩, ⟨hle, M.ctr, h3.below, fun b hb hno => h3.own b hb fun h => hno (hown0 b h), fun b hb hown => ?_, fun i hic hnone => ?_⟩⟩
 ·rcases hcase j x h with ⟨hj, hne, hst⟩ | ⟨i, y, hK, rfl, hs1, rfl⟩
  ·obtain ⟨b, o, bs, m, q1, q2, q3⟩ := hi.box j x hst
   have hb := (hi.boxat j b o bs q1).2.1
   exact ⟨b, o, bs, m, by rw [hg2l j hj]; exact q1, by rw [h3.own b hb (hnotown j x b o bs hj hne hst q1)]; exact q2, q3.mono hle⟩
  ·obtain ⟨b, o, bs, m, q1, q2, q3⟩ := h2.box i y hs1
   exact ⟨b, o, bs, m, hK2 i _ hK q1, q2, BR.ren hK2 hnp (M.kept i y hK hs1).1 q3⟩
 ·by_cases hj : j < st.ctr
  ·rw [hg2l j hj] at h
   obtain ⟨q1, q2, q3⟩ := hi.boxat j b o bs h
   exact ⟨q1, Nat.lt_of_lt_of_le q2 h3.below.size, q3⟩
  ·simp only [g2, if_neg hj] at h
   cases hiv : inv j with
   | none => rw [hiv] at h; cases h
   | some i =>
    rw [hiv] at h
    obtain ⟨q1, q2, q3⟩ := h2.boxat i b o bs h
    refine ⟨q1, q2, fun o => ?_⟩
    cases hp : g.pub b o with
    | none => first | rfl | exact hp
    | some c => have := h3.le.pub b o c hp; rw [q3 o] at this; cases this
 ·
  have side : ∀ j x i y b o bs o' bs', j < st.ctr → (∀ i, A i = true → ρ i ≠ j) → st.box.get j = some x → g2.box j = some (b, o, bs) → K i = true → s1.box.get i = some y → g1.box i = some (b, o', bs') → False := fun j x i y b o bs o' bs' hj hne hst hb hK hs1 hb1 => by
   rw [hg2l j hj] at hb
   have hsz := (hi.boxat j b o bs hb).2.1
   exact hnotown j x b o bs hj hne hst hb (h3.noth b hsz ⟨i, y, o', bs', hs1, hb1⟩)
  have unG : ∀ i y b o bs, K i = true → s1.box.get i = some y → g2.box (ρ i) = some (b, o, bs) → g1.box i = some (b, o, bs) := fun i y b o bs hK hs1 hb => by
   obtain ⟨b1, o1, bs1, m, p1, _, _⟩ := h2.box i y hs1
   have := hK2 i _ hK p1
   rw [this] at hb
   rw [p1]; exact hb
  rcases hcase i x q1 with ⟨hj1, hne1, hst1⟩ | ⟨i1, y1, hK1, rfl, hs1, rfl⟩
  ·rcases hcase j y q2 with ⟨hj2, hne2, hst2⟩ | ⟨i2, y2, hK2', rfl, hs2, rfl⟩
   ·rw [hg2l i hj1] at q3
    rw [hg2l j hj2] at q4
    exact hi.boxinj _ _ _ _ _ _ _ _ _ hst1 hst2 q3 q4
   ·exact (side i x i2 y2 b o bs o' bs' hj1 hne1 hst1 q3 hK2' hs2 (unG i2 y2 _ _ _ hK2' hs2 q4)).elim
  ·rcases hcase j y q2 with ⟨hj2, hne2, hst2⟩ | ⟨i2, y2, hK2', rfl, hs2, rfl⟩
   ·exact (side j y i1 y1 b o' bs' o bs hj2 hne2 hst2 q4 hK1 hs1 (unG i1 y1 _ _ _ hK1 hs1 q3)).elim
   ·rw [h2.boxinj _ _ _ _ _ _ _ _ _ hs1 hs2 (unG i1 y1 _ _ _ hK1 hs1 q3) (unG i2 y2 _ _ _ hK2' hs2 q4)]
 ·have hk : st'.ctr ≤ k := hk
  have := M.ctr
  refine ⟨?_, ?_⟩
  ·have hkn : ¬ k < st.ctr := by omega
   simp only [g2, if_neg hkn]
   cases hiv : inv k with
   | none => rfl
   | some i =>
    obtain ⟨a1, a2, a3⟩ := hinv.2 k i hiv
    have := (M.high i a1 a2).2
    omega
  ·show st'.box.get k = none
   cases hb : st'.box.get k with
   | none => rfl
   | some x =>
    obtain ⟨i, y, a1, a2, a3, _⟩ := M.new k x (by omega) hb
    have := (M.high i a1 a2).2
    omega
 ·obtain ⟨j, x, o, bs, q1, q2⟩ := hown
  rcases hcase j x q1 with ⟨hj, hne, hst⟩ | ⟨i, y, hK, rfl, hs1, rfl⟩
  ·rw [hg2l j hj] at q2
   exact ⟨j, x, o, bs, hst, q2⟩
  ·obtain ⟨b1, o1, bs1, m, p1, _, _⟩ := h2.box i y hs1
   have hh := hK2 i _ hK p1
   rw [hh] at q2
   obtain ⟨rfl, rfl, rfl⟩ : b1 = b ∧ o1 = o ∧ bs1 = bs := by simpa using q2
   exact hown0 b1 (h3.noth b1 hb ⟨i, y, o1, bs1, hs1, p1⟩)
 ·have hic : i < st.ctr := hic
  have hnone : st.box.get i = none := hnone
  refine ⟨?_, hg2l i hic⟩
  show st'.box.get i = none
  rw [M.rest i hic]
  ·exact hnone
  ·intro k hA he
   obtain ⟨_, hne⟩ := M.small k hA
   cases hs0 : s0.box.get k with
   | none => exact hne hs0
   | some x =>
    have := (M.all k x hs0).2.2
    rw [he, hnone] at this; cases this
end Go.Vm
