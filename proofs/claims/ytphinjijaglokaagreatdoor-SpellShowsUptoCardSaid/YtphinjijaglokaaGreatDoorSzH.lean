/- Which nodes have a text: by the program, by the document. -/
import Derived.Test.YtphinjijaglokaaGreatDoorSzG
import Derived.Test.YtphinjijaglokaaGreatDoorSzF
import Derived.Test.YtphinjijaglokaaGreatDoorSz5
namespace Go.Vm
open Go Go.Proofs Go.Pa
attribute [local simp] OkS Qi OkG Qh Qp OkD JY Qr JI Jm Jq vop Js JB ev evs toV Jl Fr.dsTo Fr.glTo Fr.toNone Ji Jj Jk Qk QL Jd JD Jv V.undef JW JM J7 JX J3 J9 J8 Qa JH J4 J5 JZ JO Qb Jt Ju Jw Jz JE Jr JL JN JK Qq
theorem JiJ : ∀ (d n k : Nat), n < 10 ^ k → 1 ≤ k → (JdE d n).length ≤ k
 | 0, n, k, _, _ => by simp [JdE]
 | d + 1, n, k, h, hk => by
  unfold JdE
  by_cases h0 : n / 10 = 0
  ·rw [if_pos h0]; simp; omega
  ·rw [if_neg h0]
   obtain ⟨j, rfl⟩ : ∃ j, k = j + 1 := ⟨k - 1, by omega⟩
   have hj : 1 ≤ j := by
    rcases Nat.eq_zero_or_pos j with rfl | h
    ·simp at h; omega
    ·exact h
   have := JiJ d (n / 10) j (by rw [Nat.pow_succ] at h; omega) hj
   simp; omega
theorem JaP {n : Nat} (h : n < 1000000) : (QW n).length ≤ 6 := JiJ _ _ 6 h (by omega)
theorem z38 : Qj Tryz.prog 38 = some 1 := by kernel_rfl
theorem a38 : Jag Tryz.prog 38 = some false := by kernel_rfl
theorem JgM : Jat Tryz.prog 38 = some .nilf := by kernel_rfl
theorem Qm : V.nilf.cells = [.nilf] := rfl
structure SmB (st : St) (sb : Nat) : Prop where
 b : st.box.get sb = some (.cells [.fn 38 [] [.ptr sb 0]] 38 true (some 0))
 lt : sb < st.ctr
theorem SmB.keep {st st' : St} {sb : Nat} (h : SmB st sb) (k : Keep st st') : SmB st' sb := ⟨by rw [k.box sb h.lt]; exact h.b, Nat.lt_of_lt_of_le h.lt k.ctr⟩
theorem SmB.ld {st : St} {sb : Nat} (h : SmB st sb) : Qe Tryz.prog st 38 (.ptr sb 0) = some (.fn 38 [] [.ptr sb 0]) := Qd (off := 0) a38 z38 h.b rfl
variable [Memo] [NY] [NZ]
def SmW [Memo] (gl : Gl) (t : Nt) : Prop := ∀ (st : St) (cs : List V) (sb : Nat), NR st cs t → SmB st sb → Says Tryz.prog gl 38 [.agg cs, .ptr sb 0] st fun v st' => v = .bool true ∧ Keep st st'
omit [NZ] in
set_option maxRecDepth 100000 in
theorem JmM (gl : Gl) (st : St) (cs : List V) (t : Nt) (sb : Nat) (hr : NR st cs t) (hs : SmB st sb) (ih : SmW gl t) :
  Says Tryz.prog gl 40 [.agg cs, .ptr sb 0] st (fun v st' => v = .bool false ∧ Keep st st') := by
 refine JS (NY.no _ rfl rfl rfl _ _) Tryz.func40 rfl (by kernel_rfl) fun R hR K gr gn => ?_
 generalize hfr : Jx gl [.agg cs, .ptr sb 0] = fr
 have hF : Fs gl [(0, .agg cs), (1, .ptr sb 0)] fr := by subst hfr; simp [Fs]
 simp only [Fs] at hF
 clear hfr
 have ho := hr.ones
 have kq := JJ st cs 25
 have hb := Qc st cs 25
 have hT := NB.new (st := st) (cs := cs)
 generalize Q4 st cs 25 = q at kq hb hT
 have hr := hr.keep kq
 have hs := hs.keep kq
 have l0 := hs.ld
 have l1 : Qe Tryz.prog q 25 (.ptr st.ctr 0) = some (.agg cs) := by
  cases hr with
  | mk => exact hT.ld.l
 obtain ⟨v, s1, hc, rfl, hk1⟩ := Says.use (ih q cs sb hr hs)
 refine Ks_ (Ka_ (gs := [none, none]) fun K1 gK => ?_)
 simp (disch := omega) [hF, Ja, ho, hb]
 refine gK _ _ (Ks_ (Ka_ (gs := [none, none, none, none, none]) fun K1 gK => ?_))
 simp (disch := omega) [hF, l0, l1, hc]
 refine gK _ _ (Kq_ (gr _ _ ?_))
 simp [JC, Tryz.f40, hF]
 refine hR _ _ ?_
 exact ⟨rfl, kq.trans hk1⟩
omit [NZ] in
set_option maxRecDepth 100000 in
theorem JmN (gl : Gl) (st : St) (kv : V) (css : List (List V)) (kids : List Nt) (sb : Nat) (hkv : NRs st kv css kids) (hlen : kids.length ≤ 1000000) (hs : SmB st sb) (ih : ∀ t ∈ kids, SmW gl t) :
  Says Tryz.prog gl 60 [kv, .fn 40 [] [.ptr sb 0]] st (fun v st' => v = .int .i64 (-1) ∧ Keep st st') := by
 refine JS (NY.no _ rfl rfl rfl _ _) Tryz.func60 rfl (by kernel_rfl) fun R hR K gr gn => ?_
 generalize hfr : Jx gl [kv, .fn 40 [] [.ptr sb 0]] = fr
 have hF : Fs gl [(0, kv), (1, .fn 40 [] [.ptr sb 0])] fr := by subst hfr; simp [Fs]
 simp only [Fs] at hF
 clear hfr
 have lx := hkv.s.len Tryz.underlying23
 rw [hkv.l] at lx
 refine Ks_ (Ka_ (gs := [none]) fun K1 gK => ?_)
 simp (disch := omega) []
 refine gK _ _ (Ks_ (Ks_ (Ka_ (gs := [none, none, none]) fun K1 gK => ?_)))
 simp (disch := omega) [hF, lx]
 refine gK _ _ ?_
 refine Kl_ (kids.length) (fun i fr st' => Fs gl [(0, kv), (1, .fn 40 [] [.ptr sb 0]), (7, .int .i64 (kids.length : Int)), (8, .int .i64 (i : Int))] fr ∧ i ≤ kids.length ∧ Keep st st') (0) (fun fr st' => Fs gl [] fr ∧ Keep st st') ?_ ?_ ?_ ?_
 ·exact ⟨by simp [Fs, hF], Nat.zero_le _, .refl _⟩
 ·rintro i fr st' ⟨_, hi, hk⟩
  omega
 ·as_aux_lemma =>
  clear hF
  rintro i fr st' ⟨hF, hi, hk⟩ K1 gk1 gx1 go1
  simp only [Fs] at hF
  refine Ks_ (Ka_ (gs := [none]) fun K1 gK => ?_)
  simp (disch := omega) [hF]
  refine gK _ _ (Ks_ ?_)
  by_cases hlt : i < kids.length
  ·
   refine Kt_ (by simp (disch := omega) [hlt]) ?_
   have hkv1 := hkv.keep hk
   have hls : i < css.length := by rw [hkv.l]; exact hlt
   have hix := hkv1.s.ix Tryz.underlying23 Jbh (k := .i64) (a := (i : Int)) (by omega) (by omega)
   have hld := hkv1.s.ld Jbh Jdo hls
   obtain ⟨v, s1, hc, rfl, hk1⟩ := Says.use (JmM gl st' _ _ sb (hkv1.r i hls hlt) (hs.keep hk) (ih _ (List.getElem_mem hlt)))
   refine Kk_ (Ks_ ?_)
   refine Kb_ fun K2 gn2 gx2 go2 => ?_
   refine Ks_ (Ka_ (gs := [none, none]) fun K1 gK => ?_)
   simp (disch := omega) [hF, hlt]
   refine gK _ _ (Ks_ (Ka_ (gs := [none, none, none, none, none, none]) fun K1 gK => ?_))
   simp (disch := omega) [hF, hix, hld, hc]
   refine gK _ _ (Kf_ (by simp (disch := omega) []) (Kk_ (gn2 _ _ (Ka_ (gs := [none, none]) fun K1 gK => ?_))))
   simp (disch := omega) [hF]
   refine gK _ _ ?_
   refine gk1 (i + 1) _ _ (by omega) ⟨by simp [Fs, hF], by omega, hk.trans hk1⟩
  ·
   refine Kf_ (by simp (disch := omega) [hlt]) ?_
   exact Kx_ (gx1 _ _ ⟨by simp [Fs, hF, hlt], hk⟩)
 ·as_aux_lemma =>
  clear hF
  rintro fr st' ⟨hF, hk⟩
  simp only [Fs] at hF
  refine Ks_ (Ka_ (gs := [none]) fun K1 gK => ?_)
  simp (disch := omega) []
  refine gK _ _ (Kq_ (gr _ _ ?_))
  simp [JC, Tryz.f60, hF]
  refine hR _ _ ?_
  exact ⟨rfl, hk⟩
omit [NZ] in
set_option maxRecDepth 100000 in
theorem JmO (gl : Gl) (st : St) (kv : V) (css : List (List V)) (kids : List Nt) (sb : Nat) (hkv : NRs st kv css kids) (hlen : kids.length ≤ 1000000) (hs : SmB st sb) (ih : ∀ t ∈ kids, SmW gl t) :
  Says Tryz.prog gl 39 [kv, .fn 40 [] [.ptr sb 0]] st (fun v st' => v = .bool false ∧ Keep st st') := by
 refine JS (NY.no _ rfl rfl rfl _ _) Tryz.func39 rfl (by kernel_rfl) fun R hR K gr gn => ?_
 generalize hfr : Jx gl [kv, .fn 40 [] [.ptr sb 0]] = fr
 have hF : Fs gl [(0, kv), (1, .fn 40 [] [.ptr sb 0])] fr := by subst hfr; simp [Fs]
 simp only [Fs] at hF
 clear hfr
 obtain ⟨v, s1, hc, rfl, hk1⟩ := Says.use (JmN gl st kv css kids sb hkv hlen hs ih)
 have e0 : ∀ kk, Jn Tryz.prog kk .geq 3 (.int .i64 (-1)) (.int .i64 0) = some (.bool false) := fun kk => Ja0
 refine Ks_ (Ka_ (gs := [none]) fun K1 gK => ?_)
 simp (disch := omega) []
 refine gK _ _ (Ks_ (Ka_ (gs := [none, none, none, none, none]) fun K1 gK => ?_))
 simp (disch := omega) [hF, hc, e0]
 refine gK _ _ (Kq_ (gr _ _ ?_))
 simp [JC, Tryz.f39, hF]
 refine hR _ _ ?_
 exact ⟨rfl, hk1⟩
set_option maxRecDepth 100000 in
theorem Jn0 (gl : Gl) (hg : gl.get 1 = some powV) (st : St) (kind : Nat) (text : S) (nv kv : V) (names : List S) (kids : List Nt) (css : List (List V)) (hn : Vw st nv names) (hkv : NRs st kv css kids) (hnl : names.length ≤ 900000) (hkl : kids.length ≤ 900000) (sb : Nat) (hs : SmB st sb) (ih : ∀ t ∈ kids, SmW gl t) :
  Says Tryz.prog gl 38 [.agg [.int .u8 (kind : Int), .str text, nv, kv], .ptr sb 0] st (fun v st' => v = .bool true ∧ Keep st st') := by
 refine JS (NY.no _ rfl rfl rfl _ _) Tryz.func38 rfl (by kernel_rfl) fun R hR K gr gn => ?_
 generalize hfr : Jx gl [.agg [.int .u8 (kind : Int), .str text, nv, kv], .ptr sb 0] = fr
 have hF : Fs gl [(0, .agg [.int .u8 (kind : Int), .str text, nv, kv]), (1, .ptr sb 0)] fr := by subst hfr; simp [Fs]
 simp only [Fs] at hF
 clear hfr
 have ho : ([.int .u8 (kind : Int), .str text, nv, kv] : List V).all Qn = true := by simp only [List.all_cons, hn.one, hkv.s.one]; rfl
 generalize hcs : ([.int .u8 (kind : Int), .str text, nv, kv] : List V) = cs at ho hF
 have kq := JJ st cs 25
 have hb := Qc st cs 25
 have hT := NB.new (st := st) (cs := cs)
 generalize Q4 st cs 25 = q at kq hb hT
 rw [← hcs] at hT
 have l2 := hT.ld.l2
 have ln := hn.len Tryz.underlying22
 obtain ⟨v, s1, hc, ⟨t, rfl, ht⟩, hk1⟩ := Says.use (Jev gl hg q names.length (by omega))
 have l3 := (hT.keep hk1).ld.l3
 have htn : t.n ≤ 6 := by rw [← S.len, ht]; exact JaP (by omega)
 have e1 : ∀ kk, Jn Tryz.prog kk .leq 3 (.int .i64 (t.n : Int)) (.int .i64 6) = some (.bool true) := fun kk => by rw [JZ]; simp; omega
 obtain ⟨v, s2, hc2, rfl, hk2⟩ := Says.use (JmO gl s1 kv css kids sb (hkv.keep (kq.trans hk1)) (by omega) (hs.keep (kq.trans hk1)) ih)
 refine Ks_ (Ka_ (gs := [none, none]) fun K1 gK => ?_)
 simp (disch := omega) [hF, Ja, ho, hb]
 refine gK _ _ (Ks_ (Ka_ (gs := [none, none, none, none, none, none, none, some (some 10, true), some (some 10, true), some (some 10, true), some (some 10, true), some (some 10, true), none, none]) fun K1 gK => ?_))
 simp (disch := omega) [hF, gN2, gN3, l2, l3, ln, hc, hc2, e1, Jb]
 refine gK _ _ (Kq_ (gr _ _ ?_))
 simp [JC, Tryz.f38, hF]
 refine hR _ _ ?_
 exact ⟨rfl, kq.trans (hk1.trans hk2)⟩
theorem JpG (gl : Gl) (hg : gl.get 1 = some powV) : ∀ t : Nt, t.fit → SmW gl t := Nt.ind fun kind text names kids ih hf st cs sb h hs' => by
 cases hf with
 | mk _ _ _ _ ht hnl hkl hns hks =>
 cases h with
 | mk kind text nv kv names kids css hk hn hs hl hz hr => exact Jn0 gl hg st kind text nv kv names kids css hn ⟨hs, hl, hr⟩ hnl hkl sb hs' fun t ht => ih t ht (hks t ht)
omit [Memo] [NY] [NZ] in
theorem Jli (q : St) : ∃ s2 : St, Q0 Tryz.prog { ctr := q.ctr + 1, box := q.box.put q.ctr (.cells [.nilf] 38 true (some 0)) } 38 (.ptr q.ctr 0) (.fn 38 [] [.ptr q.ctr 0]) = some s2 ∧ SmB s2 q.ctr ∧ Keep q s2 := by
 have hb : ({ ctr := q.ctr + 1, box := q.box.put q.ctr (.cells [.nilf] 38 true (some 0)) } : St).box.get q.ctr = some (.cells [.nilf] 38 true (some 0)) := by
  show (q.box.put q.ctr _).get q.ctr = _
  rw [Tr.get_put, if_pos rfl]
 refine ⟨_, QR z38 hb (by simp) rfl, ⟨?_, Nat.lt_succ_self _⟩, ?_⟩
 ·show ((q.box.put q.ctr _).put q.ctr _).get q.ctr = _
  rw [Tr.get_put, if_pos rfl]; rfl
 ·exact ⟨Nat.le_succ _, fun i hi => by
   show ((q.box.put q.ctr _).put q.ctr _).get i = _
   rw [Tr.get_put, if_neg (by omega), Tr.get_put, if_neg (by omega)]⟩
set_option maxRecDepth 100000 in
theorem JkI (gl : Gl) (hg : gl.get 1 = some powV) {aL : List V} (hh : Hits gl aL) (st : St) (cs : List V) (t : Nt) (hr : NR st cs t) (hf : t.fit) :
  Says Tryz.prog gl 19 [.agg cs] st (fun v st' => v = .bool (QA t) ∧ Keep st st') := by
 refine JS (NY.no _ rfl rfl rfl _ _) Tryz.func19 rfl (by kernel_rfl) fun R hR K gr gn => ?_
 generalize hfr : Jx gl [.agg cs] = fr
 have hF : Fs gl [(0, .agg cs)] fr := by subst hfr; simp [Fs]
 simp only [Fs] at hF
 clear hfr
 have ho := hr.ones
 have kq := JJ st cs 25
 have hb := Qc st cs 25
 have hT := NB.new (st := st) (cs := cs)
 generalize Q4 st cs 25 = q at kq hb hT
 have hr := hr.keep kq
 have hld : ∀ {s : St}, Keep q s → Qe Tryz.prog s 25 (.ptr st.ctr 0) = some (.agg cs) := fun k => by
  have hT := hT.keep k
  cases hr with
  | mk => exact hT.ld.l
 have l0 := hld (.refl q)
 obtain ⟨v, s1, hc, rfl, hk1⟩ := Says.use (Jih gl hh t hf q cs hr)
 obtain ⟨WN, hWN⟩ : ∃ b, QA t = b := ⟨_, rfl⟩
 rw [hWN] at hc hR
 obtain ⟨s2, hst, hsb, hk2⟩ := Jli s1
 have l1 := hsb.ld
 have l2 := hld (hk1.trans hk2)
 obtain ⟨v, s3, hc3, rfl, hk3⟩ := Says.use (JpG gl hg t hf s2 cs s1.ctr (hr.keep (hk1.trans hk2)) hsb)
 refine Ks_ (Ka_ (gs := [none, none]) fun K1 gK => ?_)
 simp (disch := omega) [hF, Ja, ho, hb]
 refine gK _ _ (Ks_ (Ks_ (Ka_ (gs := [none, none, none]) fun K1 gK => ?_)))
 simp (disch := omega) [hF, l0, hc]
 refine gK _ _ ?_
 cases WN with
 | true =>
  refine Kf_ (by simp (disch := omega) []) (Kk_ (Ks_ (Ka_ (gs := [none]) fun K1 gK => ?_)))
  simp (disch := omega) [Qm, JgM]
  refine gK _ _ (Ks_ (Ka_ (gs := [none, none]) fun K1 gK => ?_))
  simp (disch := omega) [hst]
  refine gK _ _ (Ks_ (Ka_ (gs := [none, none, none, none]) fun K1 gK => ?_))
  simp (disch := omega) [hF, l1, l2, hc3]
  refine gK _ _ (Kq_ (gr _ _ ?_))
  simp [JC, Tryz.f19, hF]
  refine hR _ _ ?_
  exact ⟨rfl, kq.trans (hk1.trans (hk2.trans hk3))⟩
 | false =>
  refine Kt_ (by simp (disch := omega) []) (Ks_ (Ka_ (gs := [none]) fun K1 gK => ?_))
  simp (disch := omega) []
  refine gK _ _ (Kq_ (gr _ _ ?_))
  simp [JC, Tryz.f19, hF]
  refine hR _ _ ?_
  exact ⟨rfl, kq.trans hk1⟩
omit [NZ] in
set_option maxRecDepth 100000 in
theorem JmP (gl : Gl) (st : St) (kind : Nat) (text : S) (nv kv : V) (names : List S) (kids : List Nt) (css : List (List V)) (hn : Vw st nv names) (hkv : NRs st kv css kids) (htl : text.n ≤ 100000) (hnl : names.length ≤ 900000) (hkl : kids.length ≤ 900000) (ih : ∀ t ∈ kids, ∀ (st : St) (cs : List V), NR st cs t → Says Tryz.prog gl 26 [.agg cs] st fun v st' => v = .bool true ∧ Keep st st') :
  Says Tryz.prog gl 26 [.agg [.int .u8 (kind : Int), .str text, nv, kv]] st (fun v st' => v = .bool true ∧ Keep st st') := by
 refine JS (NY.no _ rfl rfl rfl _ _) Tryz.func26 rfl (by kernel_rfl) fun R hR K gr gn => ?_
 generalize hfr : Jx gl [.agg [.int .u8 (kind : Int), .str text, nv, kv]] = fr
 have hF : Fs gl [(0, .agg [.int .u8 (kind : Int), .str text, nv, kv])] fr := by subst hfr; simp [Fs]
 simp only [Fs] at hF
 clear hfr
 have ho : ([.int .u8 (kind : Int), .str text, nv, kv] : List V).all Qn = true := by simp only [List.all_cons, hn.one, hkv.s.one]; rfl
 generalize hcs : ([.int .u8 (kind : Int), .str text, nv, kv] : List V) = cs at ho hF
 have kq := JJ st cs 25
 have hb := Qc st cs 25
 have hT := NB.new (st := st) (cs := cs)
 generalize Q4 st cs 25 = q at kq hb hT
 rw [← hcs] at hT
 obtain ⟨l0, l1, l2, l3, _⟩ := hT.ld
 have ln := hn.len Tryz.underlying22
 have lk := hkv.s.len Tryz.underlying23
 rw [hkv.l] at lk
 have e1 : ∀ kk, Jn Tryz.prog kk .gtr 3 (.int .i64 (text.n : Int)) (.int .i64 999999) = some (.bool false) := fun kk => by rw [JO]; simp; omega
 have e2 : ∀ kk, Jn Tryz.prog kk .gtr 3 (.int .i64 (names.length : Int)) (.int .i64 999999) = some (.bool false) := fun kk => by rw [JO]; simp; omega
 refine Ks_ (Ka_ (gs := [none, none]) fun K1 gK => ?_)
 simp (disch := omega) [hF, Ja, ho, hb]
 refine gK _ _ (Ks_ (Ks_ (Ka_ (gs := [none, none, none, none, none, some (some 8, false), some (some 8, false), some (some 8, false), some (some 8, false), none]) fun K1 gK => ?_)))
 simp (disch := omega) [gN1, gN2, l1, l2, ln, e1, e2, Jb]
 refine gK _ _ (Kf_ (by simp (disch := omega) []) (Kk_ (Ks_ (Ks_ (Ka_ (gs := [none]) fun K1 gK => ?_)))))
 simp (disch := omega) []
 refine gK _ _ ?_
 refine Kl_ (kids.length) (fun i fr st' => Fs gl [(1, .ptr st.ctr 0), (3, .int .i64 (i : Int))] fr ∧ i ≤ kids.length ∧ Keep q st') (0) (fun fr st' => Fs gl [] fr ∧ Keep q st') ?_ ?_ ?_ ?_
 ·exact ⟨by simp [Fs, hF], Nat.zero_le _, .refl _⟩
 ·rintro i fr st' ⟨_, hi, hk⟩
  omega
 ·as_aux_lemma =>
  clear hF
  rintro i fr st' ⟨hF, hi, hk⟩ K3 gk3 gx3 go3
  simp only [Fs] at hF
  have m3 := (hT.keep hk).ld.l3
  refine Ks_ (Ks_ (Ka_ (gs := [none, none, none, none, none]) fun K1 gK => ?_))
  simp (disch := omega) [hF, gN3, lk, m3]
  refine gK _ _ ?_
  by_cases hlt : i < kids.length
  ·
   refine Kt_ (by simp (disch := omega) [hlt]) ?_
   have hkv1 := hkv.keep (kq.trans hk)
   have hls : i < css.length := by rw [hkv.l]; exact hlt
   have hix := hkv1.s.ix Tryz.underlying23 Jbh (k := .i64) (a := (i : Int)) (by omega) (by omega)
   have hld := hkv1.s.ld Jbh Jdo hls
   obtain ⟨v, s1, hc, rfl, hk1⟩ := Says.use (ih _ (List.getElem_mem hlt) st' _ (hkv1.r i hls hlt))
   refine Kk_ (Ks_ ?_)
   refine Kb_ fun K4 gn4 gx4 go4 => ?_
   refine Ks_ (Ka_ (gs := [none, none, none, none, none, none, none]) fun K1 gK => ?_)
   simp (disch := omega) [hF, gN3, m3, hlt, hix, hld, hc]
   refine gK _ _ (Kf_ (by simp (disch := omega) []) (Kk_ (gn4 _ _ (Ka_ (gs := [none, none, none]) fun K1 gK => ?_))))
   simp (disch := omega) [hF]
   refine gK _ _ ?_
   refine gk3 (i + 1) _ _ (by omega) ⟨by simp [Fs, hF], by omega, hk.trans hk1⟩
  ·
   refine Kf_ (by simp (disch := omega) [hlt]) ?_
   exact Kx_ (gx3 _ _ ⟨by simp [Fs, hF, hlt], hk⟩)
 ·as_aux_lemma =>
  clear hF
  rintro fr st' ⟨hF, hk⟩
  simp only [Fs] at hF
  refine Ks_ (Ka_ (gs := [none]) fun K1 gK => ?_)
  simp (disch := omega) []
  refine gK _ _ (Kq_ (gr _ _ ?_))
  simp [JC, Tryz.f26, hF]
  refine hR _ _ ?_
  exact ⟨rfl, kq.trans hk⟩
omit [NZ] in
theorem JmQ (gl : Gl) : ∀ t : Nt, t.fit → ∀ (st : St) (cs : List V), NR st cs t → Says Tryz.prog gl 26 [.agg cs] st fun v st' => v = .bool true ∧ Keep st st' := Nt.ind fun kind text names kids ih hf st cs h => by
 cases hf with
 | mk _ _ _ _ ht hnl hkl hns hks =>
 cases h with
 | mk kind text nv kv names kids css hk hn hs hl hz hr => exact JmP gl st kind text nv kv names kids css hn ⟨hs, hl, hr⟩ ht hnl hkl fun t ht => ih t ht (hks t ht)
end Go.Vm
namespace Go.Vm
open Go Go.Proofs Go.Pa
attribute [local simp] OkS Qi OkG Qh Qp OkD JY Qr JI Jm Jq vop Js JB ev evs toV Jl Fr.dsTo Fr.glTo Fr.toNone Ji Jj Jk Qk QL Jd JD Jv V.undef JW JM J7 JX J3 J9 J8 Qa JH J4 J5 JZ JO Qb Jt Ju Jw Jz JE Jr JL JN JK Qq
structure Wgo (F : Nat → Prop) (st : St) (F' : Nat → Prop) (st' : St) : Prop where
 o : Outs F st st'
 f : ∀ i, F' i → F i ∨ st.ctr ≤ i
theorem Wgo.trans {F G H : Nat → Prop} {a b c : St} (h : Wgo F a G b) (k : Wgo G b H c) : Wgo F a H c := ⟨⟨Nat.le_trans h.o.ctr k.o.ctr, fun i hi hf => by
  rw [k.o.box i (Nat.lt_of_lt_of_le hi h.o.ctr) fun hg => (h.f i hg).elim hf fun hh => by omega]; exact h.o.box i hi hf⟩, fun i hi => by
  rcases k.f i hi with h1 | h1
  ·exact h.f i h1
  ·exact .inr (Nat.le_trans h.o.ctr h1)⟩
theorem Wgo.keep {F : Nat → Prop} {a b : St} (h : Keep a b) : Wgo F a F b := ⟨.of h, fun _ hi => .inl hi⟩
theorem Wgo.base {F F' : Nat → Prop} {s0 a b : St} (k : Keep s0 a) (h : Wgo F a F' b) (hF : ∀ i, F i → s0.ctr ≤ i) : Keep s0 b := ⟨Nat.le_trans k.ctr h.o.ctr, fun i hi => (h.o.box i (Nat.lt_of_lt_of_le hi k.ctr) fun hf => by have := hF i hf; omega).trans (k.box i hi)⟩
theorem Wgo.box {F F' : Nat → Prop} {a b : St} (h : Wgo F a F' b) {i : Nat} (hi : i < a.ctr) (hf : ¬ F i) : b.box.get i = a.box.get i ∧ ¬ F' i := ⟨h.o.box i hi hf, fun hh => (h.f i hh).elim hf fun h2 => by omega⟩
def Wb (b : Nat) (st : St) (F : Nat → Prop) (l : List UInt8) : Prop := b < st.ctr ∧ ((st.box.get b = some (.cells [.nilp, .nils] 42 true (some 0)) ∧ l = [] ∧ ∀ i, F i ↔ i = b) ∨
 ∃ y, st.box.get b = some (.cells [.ptr b 0, y] 42 true (some 0)) ∧ Mine b 5 st y (JQ l) ∧ ¬ vid y b ∧ ∀ i, F i ↔ (i = b ∨ vid y i))
theorem Wb.lt {b : Nat} {st : St} {F : Nat → Prop} {l : List UInt8} (h : Wb b st F l) {i : Nat} (hi : F i) : b ≤ i ∧ i < st.ctr := by
 obtain ⟨h0, ⟨h1, h2, h3⟩ | ⟨y, h1, h2, h3, h4⟩⟩ := h
 ·have := (h3 i).1 hi; omega
 ·rcases (h4 i).1 hi with h5 | h5
  ·omega
  ·have := h2.vid_lt h5; omega
theorem Wb.stab {b : Nat} {st st' : St} {F : Nat → Prop} {l : List UInt8} (h : Wb b st F l) (hc : st.ctr ≤ st'.ctr) (hb : ∀ i, F i → st'.box.get i = st.box.get i) : Wb b st' F l := by
 obtain ⟨h0, ⟨h1, h2, h3⟩ | ⟨y, h1, h2, h3, h4⟩⟩ := h
 ·exact ⟨by omega, .inl ⟨by rw [hb b ((h3 b).2 rfl)]; exact h1, h2, h3⟩⟩
 ·exact ⟨by omega, .inr ⟨y, by rw [hb b ((h4 b).2 (.inl rfl))]; exact h1, h2.stab hc fun i hi => hb i ((h4 i).2 (.inr hi)), h3, h4⟩⟩
theorem Wb.keep {b : Nat} {st st' : St} {F : Nat → Prop} {l : List UInt8} (h : Wb b st F l) (k : Keep st st') : Wb b st' F l := h.stab k.ctr fun i hi => k.box i (h.lt hi).2
theorem Wb.bldW {b : Nat} {st : St} {F : Nat → Prop} {l : List UInt8} (h : Wb b st F l) (hne : l ≠ []) : JpA b st l := by
 obtain ⟨h0, ⟨h1, h2, h3⟩ | ⟨y, h1, h2, h3, h4⟩⟩ := h
 ·exact absurd h2 hne
 ·exact .inr ⟨⟨y, h1, Nat.le_refl _, h0, h2, h3⟩, hne⟩
variable [Memo] [NY]
theorem Wb.check (gl : Gl) {b : Nat} {st : St} {F : Nat → Prop} {l : List UInt8} (h : Wb b st F l) : ∃ v q1 y, JaM Tryz.prog (ihCall (W Tryz.prog)) gl 41 [.ptr b 0] st = .val v q1 ∧ q1.box.get b = some (.cells [.ptr b 0, y] 42 true (some 0)) ∧ Mine b 5 q1 y (JQ l) ∧ ¬ vid y b ∧ (∀ i, F i ↔ (i = b ∨ vid y i)) ∧ q1.ctr = st.ctr ∧ ∀ i, i ≠ b → q1.box.get i = st.box.get i := by
 obtain ⟨h0, ⟨h1, h2, h3⟩ | ⟨y, h1, h2, h3, h4⟩⟩ := h
 ·obtain ⟨v, q1, hcc, hq1⟩ := Says.use (Jdx gl st b h1) (by kernel_rfl)
  subst h2
  exact ⟨v, q1, .nils, hcc, by rw [hq1, put_get, if_pos rfl], .nils, fun h => h, fun i => by rw [h3 i]; exact ⟨.inl, fun h => h.elim id fun h => h.elim⟩, by rw [hq1, Q3], fun i hi => by rw [hq1, put_get, if_neg hi]⟩
 ·obtain ⟨v, q1, hcc, hq1⟩ := Says.use (Jei gl st b y h1) (by kernel_rfl)
  obtain rfl : q1 = st := hq1
  exact ⟨v, q1, y, hcc, h1, h2, h3, h4, rfl, fun _ _ => rfl⟩
set_option maxRecDepth 100000 in
theorem JhM (gl : Gl) (st : St) (b : Nat) (F : Nat → Prop) (l : List UInt8) (s : S) (hb : Wb b st F l) (hl : l.length + s.n ≤ 1000000000000) :
  Says Tryz.prog gl 20 [.ptr b 0, .str s] st (fun _v st' => ∃ F', Wb b st' F' (l ++ s.toList) ∧ Wgo F st F' st') := by
 refine JS (NY.no _ rfl rfl rfl _ _) Tryz.func20 rfl (by kernel_rfl) fun R hR K gr gn => ?_
 generalize hfr : Jx gl [.ptr b 0, .str s] = fr
 have hF : Fs gl [(0, .ptr b 0), (1, .str s)] fr := by subst hfr; simp [Fs]
 simp only [Fs] at hF
 clear hfr
 obtain ⟨v, q1, y, hcc, b1, hm, hv, hF', hqc, hqb⟩ := hb.check gl
 have hbc := hb.1
 have l1 := Qd (P := Tryz.prog) (off := 1) a91 z91 b1 rfl
 obtain ⟨z, q2, ha, hl2, hm2, hv2, ho2⟩ := JmS hm (Jgj q1 s) (by omega) (by rw [Qt, Qt, S.len]; exact hl)
 have b2 := (ho2 b (by omega) hv).trans b1
 have hvz : ¬ vid z b := fun h => by
  rcases hv2 b h with h | h
  ·exact hv h
  ·omega
 have w := QR (P := Tryz.prog) (st := q2) (t := 40) (off := 1) (v := z) z91 b2 (by simp) hm2.sim
 have ls := Jar Tryz.underlying9 (s := s)
 refine Ks_ (Ka_ (gs := [none, none]) fun K1 gK => ?_)
 simp (disch := omega) []
 refine gK _ _ (Ks_ (Ka_ (gs := [none, none]) fun K1 gK => ?_))
 simp (disch := omega) [hF, hcc]
 refine gK _ _ (Ks_ (Ka_ (gs := [none, none, none, none, none, none, none, none, none, none]) fun K1 gK => ?_))
 simp (disch := omega) [hF, fb1, l1, ha, w, Tryz.underlying9]
 refine gK _ _ (Ks_ (Ka_ (gs := [none, none, none, none]) fun K1 gK => ?_))
 simp (disch := omega) [hF, ls]
 refine gK _ _ (Kq_ (gr _ _ ?_))
 simp [JC, Tryz.f20, hF]
 refine hR _ _ ?_
 have hbb : (q2.put b (.cells [.ptr b 0, z] 42 true (some 0))).box.get b = some (.cells [.ptr b 0, z] 42 true (some 0)) := by rw [put_get, if_pos rfl]
 have hc2 := hl2.ctr
 refine ⟨fun i => i = b ∨ vid z i, ⟨by show b < q2.ctr; omega, .inr ⟨z, hbb, ?_, hvz, fun i => Iff.rfl⟩⟩, ⟨⟨by show st.ctr ≤ q2.ctr; omega, fun i hi hf => ?_⟩, fun i hi => ?_⟩⟩
 ·rw [JdO]
  exact hm2.stab (Nat.le_refl _) fun i hi => by
   show (q2.put b _).box.get i = _
   rw [put_get, if_neg (by rintro rfl; exact hvz hi)]
 ·have hib : i ≠ b := fun h => hf ((hF' i).2 (.inl h))
  show (q2.put b _).box.get i = _
  rw [put_get, if_neg hib, ho2 i (by omega) fun h => hf ((hF' i).2 (.inr h)), hqb i hib]
 ·rcases hi with h | h
  ·exact .inl ((hF' i).2 (.inl h))
  ·rcases hv2 i h with h | h
   ·exact .inl ((hF' i).2 (.inr h))
   ·exact .inr (by omega)
end Go.Vm
