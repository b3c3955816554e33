/- Which nodes have a text: by the program, by the document. -/
import Derived.Test.YtphinjijaglokaaGreatDoorSzG
import Derived.Test.YtphinjijaglokaaGreatDoorSzF
import Derived.Test.YtphinjijaglokaaGreatDoorSz5
namespace Go.Vm
open Go Go.Proofs Go.Pa
attribute [local simp] OkS J0 OkG JX J2 OkD JH J1 Ju Jg Jh vop Ji Jp ev evs toV Jf Fr.dsTo Fr.glTo Fr.toNone Jc Jd Je JZ Qk Jb Jr Jj V.undef JG Jx JK JI JL JO JT JP JF JQ JU JM JJ JV Jo Jk Jl Js Jt Jn Jy Jz Jw J3
theorem JhD : ∀ (d n k : Nat), n < 10 ^ k → 1 ≤ k → (JeC d n).length ≤ k
 | 0, n, k, _, _ => by simp [JeC]
 | d + 1, n, k, h, hk => by
  unfold JeC
  by_cases h0 : n / 10 = 0
  ·rw [if_pos h0]; simp; omega
  ·rw [if_neg h0]
   obtain ⟨j, rfl⟩ : ∃ j, k = j + 1 := ⟨k - 1, by omega⟩
   have hj : 1 ≤ j := by
    rcases Nat.eq_zero_or_pos j with rfl | h
    ·simp at h; omega
    ·exact h
   have := JhD d (n / 10) j (by rw [Nat.pow_succ] at h; omega) hj
   simp; omega
theorem Jlb {n : Nat} (h : n < 1000000) : (Ja1 n).length ≤ 6 := JhD _ _ 6 h (by omega)
theorem z38 : J5 Tryz.prog 38 = some 1 := by kernel_rfl
theorem a38 : QM Tryz.prog 38 = some false := by kernel_rfl
theorem JfB : Q1 Tryz.prog 38 = some .nilf := by kernel_rfl
theorem QS : V.nilf.cells = [.nilf] := rfl
structure SmB (st : St) (sb : Nat) : Prop where
 b : st.box.get sb = some (.cells [.fn 38 [] [.ptr sb 0]] 38 true (some 0))
 lt : sb < st.ctr
theorem SmB.keep {st st' : St} {sb : Nat} (h : SmB st sb) (k : Keep st st') : SmB st' sb := ⟨by rw [k.box sb h.lt]; exact h.b, Nat.lt_of_lt_of_le h.lt k.ctr⟩
theorem SmB.ld {st : St} {sb : Nat} (h : SmB st sb) : Qj Tryz.prog st 38 (.ptr sb 0) = some (.fn 38 [] [.ptr sb 0]) := J9 (off := 0) a38 z38 h.b rfl
variable [Memo] [NY] [NZ]
def SmW [Memo] (gl : Gl) (t : Nt) : Prop := ∀ (st : St) (cs : List V) (sb : Nat), NR st cs t → SmB st sb → Says Tryz.prog gl 38 [.agg cs, .ptr sb 0] st fun v st' => v = .bool true ∧ Keep st st'
omit [NZ] in
set_option maxRecDepth 100000 in
theorem Jlc (gl : Gl) (st : St) (cs : List V) (t : Nt) (sb : Nat) (hr : NR st cs t) (hs : SmB st sb) (ih : SmW gl t) :
  Says Tryz.prog gl 40 [.agg cs, .ptr sb 0] st (fun v st' => v = .bool false ∧ Keep st st') := by
 refine Qh (NY.no _ rfl rfl rfl _ _) Tryz.func40 rfl (by kernel_rfl) fun R hR K gr gn => ?_
 generalize hfr : JB gl [.agg cs, .ptr sb 0] = fr
 have hF : Fs gl [(0, .agg cs), (1, .ptr sb 0)] fr := by subst hfr; simp [Fs]
 simp only [Fs] at hF
 clear hfr
 have ho := hr.ones
 have kq := QQ st cs 25
 have hb := Jam st cs 25
 have hT := NB.new (st := st) (cs := cs)
 generalize Jbh st cs 25 = q at kq hb hT
 have hr := hr.keep kq
 have hs := hs.keep kq
 have l0 := hs.ld
 have l1 : Qj Tryz.prog q 25 (.ptr st.ctr 0) = some (.agg cs) := by
  cases hr with
  | mk => exact hT.ld.l
 obtain ⟨v, s1, hc, rfl, hk1⟩ := Says.use (ih q cs sb hr hs)
 refine Ks_ (Ka_ (gs := [none, none]) fun K1 gK => ?_)
 simp (disch := omega) [hF, Ja, ho, hb]
 refine gK _ _ (Ks_ (Ka_ (gs := [none, none, none, none, none]) fun K1 gK => ?_))
 simp (disch := omega) [hF, l0, l1, hc]
 refine gK _ _ (Kq_ (gr _ _ ?_))
 simp [J7, Tryz.f40, hF]
 refine hR _ _ ?_
 exact ⟨rfl, kq.trans hk1⟩
omit [NZ] in
set_option maxRecDepth 100000 in
theorem Jld (gl : Gl) (st : St) (kv : V) (css : List (List V)) (kids : List Nt) (sb : Nat) (hkv : NRs st kv css kids) (hlen : kids.length ≤ 1000000) (hs : SmB st sb) (ih : ∀ t ∈ kids, SmW gl t) :
  Says Tryz.prog gl 60 [kv, .fn 40 [] [.ptr sb 0]] st (fun v st' => v = .int .i64 (-1) ∧ Keep st st') := by
 refine Qh (NY.no _ rfl rfl rfl _ _) Tryz.func60 rfl (by kernel_rfl) fun R hR K gr gn => ?_
 generalize hfr : JB gl [kv, .fn 40 [] [.ptr sb 0]] = fr
 have hF : Fs gl [(0, kv), (1, .fn 40 [] [.ptr sb 0])] fr := by subst hfr; simp [Fs]
 simp only [Fs] at hF
 clear hfr
 have lx := hkv.s.len Tryz.underlying23
 rw [hkv.l] at lx
 refine Ks_ (Ka_ (gs := [none]) fun K1 gK => ?_)
 simp (disch := omega) []
 refine gK _ _ (Ks_ (Ks_ (Ka_ (gs := [none, none, none]) fun K1 gK => ?_)))
 simp (disch := omega) [hF, lx]
 refine gK _ _ ?_
 refine Kl_ (kids.length) (fun i fr st' => Fs gl [(0, kv), (1, .fn 40 [] [.ptr sb 0]), (7, .int .i64 (kids.length : Int)), (8, .int .i64 (i : Int))] fr ∧ i ≤ kids.length ∧ Keep st st') (0) (fun fr st' => Fs gl [] fr ∧ Keep st st') ?_ ?_ ?_ ?_
 ·exact ⟨by simp [Fs, hF], Nat.zero_le _, .refl _⟩
 ·rintro i fr st' ⟨_, hi, hk⟩
  omega
 ·as_aux_lemma =>
  clear hF
  rintro i fr st' ⟨hF, hi, hk⟩ K1 gk1 gx1 go1
  simp only [Fs] at hF
  refine Ks_ (Ka_ (gs := [none]) fun K1 gK => ?_)
  simp (disch := omega) [hF]
  refine gK _ _ (Ks_ ?_)
  by_cases hlt : i < kids.length
  ·
   refine Kt_ (by simp (disch := omega) [hlt]) ?_
   have hkv1 := hkv.keep hk
   have hls : i < css.length := by rw [hkv.l]; exact hlt
   have hix := hkv1.s.ix Tryz.underlying23 Jci (k := .i64) (a := (i : Int)) (by omega) (by omega)
   have hld := hkv1.s.ld Jci Jgx hls
   obtain ⟨v, s1, hc, rfl, hk1⟩ := Says.use (Jlc gl st' _ _ sb (hkv1.r i hls hlt) (hs.keep hk) (ih _ (List.getElem_mem hlt)))
   refine Kk_ (Ks_ ?_)
   refine Kb_ fun K2 gn2 gx2 go2 => ?_
   refine Ks_ (Ka_ (gs := [none, none]) fun K1 gK => ?_)
   simp (disch := omega) [hF, hlt]
   refine gK _ _ (Ks_ (Ka_ (gs := [none, none, none, none, none, none]) fun K1 gK => ?_))
   simp (disch := omega) [hF, hix, hld, hc]
   refine gK _ _ (Kf_ (by simp (disch := omega) []) (Kk_ (gn2 _ _ (Ka_ (gs := [none, none]) fun K1 gK => ?_))))
   simp (disch := omega) [hF]
   refine gK _ _ ?_
   refine gk1 (i + 1) _ _ (by omega) ⟨by simp [Fs, hF], by omega, hk.trans hk1⟩
  ·
   refine Kf_ (by simp (disch := omega) [hlt]) ?_
   exact Kx_ (gx1 _ _ ⟨by simp [Fs, hF, hlt], hk⟩)
 ·as_aux_lemma =>
  clear hF
  rintro fr st' ⟨hF, hk⟩
  simp only [Fs] at hF
  refine Ks_ (Ka_ (gs := [none]) fun K1 gK => ?_)
  simp (disch := omega) []
  refine gK _ _ (Kq_ (gr _ _ ?_))
  simp [J7, Tryz.f60, hF]
  refine hR _ _ ?_
  exact ⟨rfl, hk⟩
omit [NZ] in
set_option maxRecDepth 100000 in
theorem Jle (gl : Gl) (st : St) (kv : V) (css : List (List V)) (kids : List Nt) (sb : Nat) (hkv : NRs st kv css kids) (hlen : kids.length ≤ 1000000) (hs : SmB st sb) (ih : ∀ t ∈ kids, SmW gl t) :
  Says Tryz.prog gl 39 [kv, .fn 40 [] [.ptr sb 0]] st (fun v st' => v = .bool false ∧ Keep st st') := by
 refine Qh (NY.no _ rfl rfl rfl _ _) Tryz.func39 rfl (by kernel_rfl) fun R hR K gr gn => ?_
 generalize hfr : JB gl [kv, .fn 40 [] [.ptr sb 0]] = fr
 have hF : Fs gl [(0, kv), (1, .fn 40 [] [.ptr sb 0])] fr := by subst hfr; simp [Fs]
 simp only [Fs] at hF
 clear hfr
 obtain ⟨v, s1, hc, rfl, hk1⟩ := Says.use (Jld gl st kv css kids sb hkv hlen hs ih)
 have e0 : ∀ kk, Jv Tryz.prog kk .geq 3 (.int .i64 (-1)) (.int .i64 0) = some (.bool false) := fun kk => Jco
 refine Ks_ (Ka_ (gs := [none]) fun K1 gK => ?_)
 simp (disch := omega) []
 refine gK _ _ (Ks_ (Ka_ (gs := [none, none, none, none, none]) fun K1 gK => ?_))
 simp (disch := omega) [hF, hc, e0]
 refine gK _ _ (Kq_ (gr _ _ ?_))
 simp [J7, Tryz.f39, hF]
 refine hR _ _ ?_
 exact ⟨rfl, hk1⟩
set_option maxRecDepth 100000 in
theorem Jl1 (gl : Gl) (hg : gl.get 1 = some powV) (st : St) (kind : Nat) (text : S) (nv kv : V) (names : List S) (kids : List Nt) (css : List (List V)) (hn : Vw st nv names) (hkv : NRs st kv css kids) (hnl : names.length ≤ 900000) (hkl : kids.length ≤ 900000) (sb : Nat) (hs : SmB st sb) (ih : ∀ t ∈ kids, SmW gl t) :
  Says Tryz.prog gl 38 [.agg [.int .u8 (kind : Int), .str text, nv, kv], .ptr sb 0] st (fun v st' => v = .bool true ∧ Keep st st') := by
 refine Qh (NY.no _ rfl rfl rfl _ _) Tryz.func38 rfl (by kernel_rfl) fun R hR K gr gn => ?_
 generalize hfr : JB gl [.agg [.int .u8 (kind : Int), .str text, nv, kv], .ptr sb 0] = fr
 have hF : Fs gl [(0, .agg [.int .u8 (kind : Int), .str text, nv, kv]), (1, .ptr sb 0)] fr := by subst hfr; simp [Fs]
 simp only [Fs] at hF
 clear hfr
 have ho : ([.int .u8 (kind : Int), .str text, nv, kv] : List V).all Qb = true := by simp only [List.all_cons, hn.one, hkv.s.one]; rfl
 generalize hcs : ([.int .u8 (kind : Int), .str text, nv, kv] : List V) = cs at ho hF
 have kq := QQ st cs 25
 have hb := Jam st cs 25
 have hT := NB.new (st := st) (cs := cs)
 generalize Jbh st cs 25 = q at kq hb hT
 rw [← hcs] at hT
 have l2 := hT.ld.l2
 have ln := hn.len Tryz.underlying22
 obtain ⟨v, s1, hc, ⟨t, rfl, ht⟩, hk1⟩ := Says.use (JlE gl hg q names.length (by omega))
 have l3 := (hT.keep hk1).ld.l3
 have htn : t.n ≤ 6 := by rw [← S.len, ht]; exact Jlb (by omega)
 have e1 : ∀ kk, Jv Tryz.prog kk .leq 3 (.int .i64 (t.n : Int)) (.int .i64 6) = some (.bool true) := fun kk => by rw [JM]; simp; omega
 obtain ⟨v, s2, hc2, rfl, hk2⟩ := Says.use (Jle gl s1 kv css kids sb (hkv.keep (kq.trans hk1)) (by omega) (hs.keep (kq.trans hk1)) ih)
 refine Ks_ (Ka_ (gs := [none, none]) fun K1 gK => ?_)
 simp (disch := omega) [hF, Ja, ho, hb]
 refine gK _ _ (Ks_ (Ka_ (gs := [none, none, none, none, none, none, none, some (some 10, true), some (some 10, true), some (some 10, true), some (some 10, true), some (some 10, true), none, none]) fun K1 gK => ?_))
 simp (disch := omega) [hF, gN2, gN3, l2, l3, ln, hc, hc2, e1, Jq]
 refine gK _ _ (Kq_ (gr _ _ ?_))
 simp [J7, Tryz.f38, hF]
 refine hR _ _ ?_
 exact ⟨rfl, kq.trans (hk1.trans hk2)⟩
theorem Jnm (gl : Gl) (hg : gl.get 1 = some powV) : ∀ t : Nt, t.fit → SmW gl t := Nt.ind fun kind text names kids ih hf st cs sb h hs' => by
 cases hf with
 | mk _ _ _ _ ht hnl hkl hns hks =>
 cases h with
 | mk kind text nv kv names kids css hk hn hs hl hz hr => exact Jl1 gl hg st kind text nv kv names kids css hn ⟨hs, hl, hr⟩ hnl hkl sb hs' fun t ht => ih t ht (hks t ht)
omit [Memo] [NY] [NZ] in
theorem JjZ (q : St) : ∃ s2 : St, Jak Tryz.prog { ctr := q.ctr + 1, box := q.box.put q.ctr (.cells [.nilf] 38 true (some 0)) } 38 (.ptr q.ctr 0) (.fn 38 [] [.ptr q.ctr 0]) = some s2 ∧ SmB s2 q.ctr ∧ Keep q s2 := by
 have hb : ({ ctr := q.ctr + 1, box := q.box.put q.ctr (.cells [.nilf] 38 true (some 0)) } : St).box.get q.ctr = some (.cells [.nilf] 38 true (some 0)) := by
  show (q.box.put q.ctr _).get q.ctr = _
  rw [Tr.get_put, if_pos rfl]
 refine ⟨_, Jaz z38 hb (by simp) rfl, ⟨?_, Nat.lt_succ_self _⟩, ?_⟩
 ·show ((q.box.put q.ctr _).put q.ctr _).get q.ctr = _
  rw [Tr.get_put, if_pos rfl]; rfl
 ·exact ⟨Nat.le_succ _, fun i hi => by
   show ((q.box.put q.ctr _).put q.ctr _).get i = _
   rw [Tr.get_put, if_neg (by omega), Tr.get_put, if_neg (by omega)]⟩
set_option maxRecDepth 100000 in
theorem Jl2 (gl : Gl) (hg : gl.get 1 = some powV) {aL : List V} (hh : Hits gl aL) (st : St) (cs : List V) (t : Nt) (hr : NR st cs t) (hf : t.fit) :
  Says Tryz.prog gl 19 [.agg cs] st (fun v st' => v = .bool (QA t) ∧ Keep st st') := by
 refine Qh (NY.no _ rfl rfl rfl _ _) Tryz.func19 rfl (by kernel_rfl) fun R hR K gr gn => ?_
 generalize hfr : JB gl [.agg cs] = fr
 have hF : Fs gl [(0, .agg cs)] fr := by subst hfr; simp [Fs]
 simp only [Fs] at hF
 clear hfr
 have ho := hr.ones
 have kq := QQ st cs 25
 have hb := Jam st cs 25
 have hT := NB.new (st := st) (cs := cs)
 generalize Jbh st cs 25 = q at kq hb hT
 have hr := hr.keep kq
 have hld : ∀ {s : St}, Keep q s → Qj Tryz.prog s 25 (.ptr st.ctr 0) = some (.agg cs) := fun k => by
  have hT := hT.keep k
  cases hr with
  | mk => exact hT.ld.l
 have l0 := hld (.refl q)
 obtain ⟨v, s1, hc, rfl, hk1⟩ := Says.use (Jhc gl hh t hf q cs hr)
 obtain ⟨WN, hWN⟩ : ∃ b, QA t = b := ⟨_, rfl⟩
 rw [hWN] at hc hR
 obtain ⟨s2, hst, hsb, hk2⟩ := JjZ s1
 have l1 := hsb.ld
 have l2 := hld (hk1.trans hk2)
 obtain ⟨v, s3, hc3, rfl, hk3⟩ := Says.use (Jnm gl hg t hf s2 cs s1.ctr (hr.keep (hk1.trans hk2)) hsb)
 refine Ks_ (Ka_ (gs := [none, none]) fun K1 gK => ?_)
 simp (disch := omega) [hF, Ja, ho, hb]
 refine gK _ _ (Ks_ (Ks_ (Ka_ (gs := [none, none, none]) fun K1 gK => ?_)))
 simp (disch := omega) [hF, l0, hc]
 refine gK _ _ ?_
 cases WN with
 | true =>
  refine Kf_ (by simp (disch := omega) []) (Kk_ (Ks_ (Ka_ (gs := [none]) fun K1 gK => ?_)))
  simp (disch := omega) [QS, JfB]
  refine gK _ _ (Ks_ (Ka_ (gs := [none, none]) fun K1 gK => ?_))
  simp (disch := omega) [hst]
  refine gK _ _ (Ks_ (Ka_ (gs := [none, none, none, none]) fun K1 gK => ?_))
  simp (disch := omega) [hF, l1, l2, hc3]
  refine gK _ _ (Kq_ (gr _ _ ?_))
  simp [J7, Tryz.f19, hF]
  refine hR _ _ ?_
  exact ⟨rfl, kq.trans (hk1.trans (hk2.trans hk3))⟩
 | false =>
  refine Kt_ (by simp (disch := omega) []) (Ks_ (Ka_ (gs := [none]) fun K1 gK => ?_))
  simp (disch := omega) []
  refine gK _ _ (Kq_ (gr _ _ ?_))
  simp [J7, Tryz.f19, hF]
  refine hR _ _ ?_
  exact ⟨rfl, kq.trans hk1⟩
end Go.Vm
namespace Go.Vm
open Go Go.Proofs Go.Pa
attribute [local simp] OkS J0 OkG JX J2 OkD JH J1 Ju Jg Jh vop Ji Jp ev evs toV Jf Fr.dsTo Fr.glTo Fr.toNone Jc Jd Je JZ Qk Jb Jr Jj V.undef JG Jx JK JI JL JO JT JP JF JQ JU JM JJ JV Jo Jk Jl Js Jt Jn Jy Jz Jw J3
structure Wgo (F : Nat → Prop) (st : St) (F' : Nat → Prop) (st' : St) : Prop where
 o : Outs F st st'
 f : ∀ i, F' i → F i ∨ st.ctr ≤ i
def Wb (b : Nat) (st : St) (F : Nat → Prop) (l : List UInt8) : Prop := b < st.ctr ∧ ((st.box.get b = some (.cells [.nilp, .nils] 42 true (some 0)) ∧ l = [] ∧ ∀ i, F i ↔ i = b) ∨
 ∃ y, st.box.get b = some (.cells [.ptr b 0, y] 42 true (some 0)) ∧ Mine b 5 st y (J8 l) ∧ ¬ vid y b ∧ ∀ i, F i ↔ (i = b ∨ vid y i))
variable [Memo] [NY]
end Go.Vm
