/- The text of scenarios: by the document; the law ReportAll by the program. -/
import Derived.Test.YtlholbhaajklhaaGreatDoorRzK
namespace Go.Vm
open Go Go.Proofs Go.Pa
attribute [local simp] OkS QL OkG Qu QB OkD Qd Qn JS Jh Jn vop Ju JG ev evs toV Jm Fr.dsTo Fr.glTo Fr.toNone Jj Jk Jl Qj QN Jc JL Jv V.undef J5 JV Qo Qg Qh Qk Qp Qq JU J8 Qr Ql JX Qs JC JF JE Jz JM Jo JW J2 JK Qb
theorem Jkx {ts : List S} {k : Nat} (h : k < ts.length) : ((ts.take (k + 1)).map S.toList).flatMap (fun z => z ++ [10]) = ((ts.take k).map S.toList).flatMap (fun z => z ++ [10]) ++ (ts[k].toList ++ [10]) := by
 rw [List.take_add_one, List.getElem?_eq_getElem h, List.map_append, List.flatMap_append]; simp
variable [Memo] [NY] [NZ] [NO]
set_option maxHeartbeats 4000000 in
set_option maxRecDepth 100000 in
omit [NO] in
theorem JqB (gl : Gl) (st : St) (lv : V) (l : List Sw) (hl : Row Sw.cells lv l) (hok : ∀ s ∈ l, s.ok) (hs : ∀ s ∈ l, s.small) (hlen : l.length ≤ 20) :
  Says Tryz.prog gl 19 [lv] st (fun v st' => Jqb l v ∧ Keep st st') := by
 refine Qa (NY.no _ rfl rfl rfl _ _) Tryz.func19 rfl (by kernel_rfl) fun R hR K gr gn => ?_
 generalize hfr : Jy gl [lv] = fr
 have hF : Fs gl [(0, lv)] fr := by subst hfr; simp [Fs]
 simp only [Fs] at hF
 clear hfr
 have ln := hl.len Tryz.underlying38
 refine Ks_ (Ka_ (gs := [none, none]) fun K1 gK => ?_)
 simp (disch := omega) []
 refine gK _ _ (Ks_ (Ka_ (gs := [none]) fun K1 gK => ?_))
 simp (disch := omega) []
 refine gK _ _ (Ks_ (Ks_ (Ka_ (gs := [none]) fun K1 gK => ?_)))
 simp (disch := omega) []
 refine gK _ _ ?_
 refine Kl_ (l.length) (fun i fr st' => ∃ (acc : S), Fs gl [(0, lv), (4, .str acc), (5, .int .i64 (i : Int))] fr ∧ i ≤ l.length ∧ (∀ j (h : j < l.length), j < i → JcL l[j] = true) ∧ Keep st st' ∧ acc.toList = allB (l.take i) ∧ acc.n ≤ 1000001000 * i) (0) (fun fr st' => ∃ (acc : S), Fs gl [(4, .str acc)] fr ∧ Jjz l = true ∧ Keep st st' ∧ acc.toList = allB l) ?_ ?_ ?_ ?_
 ·exact ⟨S.ofList [], by simp [Fs, hF], Nat.zero_le _, fun j _ hj => absurd hj (Nat.not_lt_zero j), .refl _, rfl, Nat.zero_le _⟩
 ·rintro i fr st' ⟨acc, _, hi, hM, hk, hacc, hbl⟩
  omega
 ·as_aux_lemma =>
  clear hF
  rintro i fr st' ⟨acc, hF, hi, hM, hk, hacc, hbl⟩ K1 gk1 gx1 go1
  simp only [Fs] at hF
  have gr1 := fun fr st h => go1 AE.ret fr st trivial (gr fr st h)
  refine Ks_ (Ks_ (Ka_ (gs := [none, none, none, none]) fun K1 gK => ?_))
  simp (disch := omega) [hF, ln]
  refine gK _ _ ?_
  by_cases hlt : i < l.length
  ·
   refine Kt_ (by simp (disch := omega) [hlt]) ?_
   have hoi := hok _ (List.getElem_mem hlt)
   have hsi := hs _ (List.getElem_mem hlt)
   have hix := hl.ix (fun t _ => t.len12) Tryz.underlying38 Jjk (k := .i64) (a := (i : Int)) (by omega) (by omega)
   have hld := fun st => Jnt (st := st) hlt
   obtain ⟨v, s2, hc2, ⟨y, ts, rfl, hts, hy⟩, hk2⟩ := Says.use (Jpw gl st' l[i] hoi hsi)
   obtain ⟨M, hMi⟩ : ∃ b, JcL l[i] = b := ⟨_, rfl⟩
   rw [hMi] at hc2 hts
   refine Kk_ (Ks_ ?_)
   refine Kb_ fun K2 gn2 gx2 go2 => ?_
   have gr2 := fun fr st h => go2 AE.ret fr st trivial (gr1 fr st h)
   refine Ks_ (Ka_ (gs := [none, none, none, none, none, none, none, none, none, none]) fun K1 gK => ?_)
   simp (disch := omega) [hF, hlt, hix, hld, hc2]
   refine gK _ _ (Ks_ (Ks_ (Ka_ (gs := [none, none]) fun K1 gK => ?_)))
   simp (disch := omega) []
   refine gK _ _ ?_
   cases M with
   | true =>
    refine Kf_ (by simp (disch := omega) []) ?_
    rw [cond_true] at hts
    obtain ⟨z1, z2, z3', z4'⟩ := Jnv hsi hoi hMi hts
    have hsay : (ts.map S.toList).flatMap (fun z => z ++ [10]) = Jku l[i] := by rw [hts]; rfl
    have hvw := hy.vw
    have lx := hvw.len Tryz.underlying23
    refine Kk_ (Ks_ (Ka_ (gs := [none]) fun K1 gK => ?_))
    simp (disch := omega) []
    refine gK _ _ ?_
    refine Kl_ (ts.length) (fun k fr st' => ∃ (ac : S), Fs gl [(0, lv), (4, .str ac), (5, .int .i64 (i : Int)), (6, y), (8, .int .i64 (k : Int))] fr ∧ k ≤ ts.length ∧ s2 = st' ∧ ac.toList = allB (l.take i) ++ ((ts.take k).map S.toList).flatMap (fun z => z ++ [10]) ∧ ac.n ≤ 1000001000 * i + 1000001 * k) (0) (fun fr st' => ∃ (ac : S), Fs gl [(0, lv), (4, .str ac), (5, .int .i64 (i : Int))] fr ∧ s2 = st' ∧ ac.toList = allB (l.take (i + 1)) ∧ ac.n ≤ 1000001000 * (i + 1)) ?_ ?_ ?_ ?_
    ·exact ⟨acc, by simp [Fs, hF], Nat.zero_le _, rfl, by simpa using hacc, by omega⟩
    ·rintro k fr st' ⟨ac, _, hkl, rfl, hac, han⟩
     omega
    ·as_aux_lemma =>
     clear hF
     rintro k fr st' ⟨ac, hF, hkl, rfl, hac, han⟩ K3 gk3 gx3 go3
     simp only [Fs] at hF
     refine Ks_ (Ks_ (Ka_ (gs := [none, none, none, none]) fun K1 gK => ?_))
     simp (disch := omega) [hF, lx]
     refine gK _ _ ?_
     by_cases hkt : k < ts.length
     ·
      refine Kt_ (by simp (disch := omega) [hkt]) ?_
      have hxi := hvw.ix Tryz.underlying23 z9 (k := .i64) (a := (k : Int)) (by omega) (by omega)
      have hxd := hvw.ld z9 a9 hkt
      have htn := z2 _ (List.getElem_mem hkt)
      have ad1 : ∀ kk, Jd Tryz.prog kk .add 9 (.str ac) (.str ts[k]) = some (.str (ac.app ts[k])) := fun kk => Jeh (by omega)
      have ad2 : ∀ kk, Jd Tryz.prog kk .add 9 (.str (ac.app ts[k])) (.str (S.ofList [10])) = some (.str ((ac.app ts[k]).app (S.ofList [10]))) := fun kk => Jeh (by rw [Jf, QZ]; simp; omega)
      refine Kk_ (Ks_ ?_)
      refine Kb_ fun K4 gn4 gx4 go4 => ?_
      refine Ka_ (gs := [none, none, none, none, none, none, none, none]) fun K1 gK => ?_
      simp (disch := omega) [hF, hkt, hxi, hxd, ad1, ad2]
      refine gK _ _ (gn4 _ _ (Ka_ (gs := [none, none, none]) fun K1 gK => ?_))
      simp (disch := omega) [hF]
      refine gK _ _ ?_
      refine gk3 (k + 1) _ _ (by omega) ⟨(ac.app ts[k]).app (S.ofList [10]), by simp [Fs, hF], by omega, rfl, by rw [S.toList_app, S.toList_app, S.toList_ofList, hac, Jkx hkt]; simp, by rw [QZ, QZ, Jf]; simp; omega⟩
     ·
      refine Kf_ (by simp (disch := omega) [hkt]) ?_
      exact Kx_ (gx3 _ _ ⟨ac, by simp [Fs, hF, hkt], rfl, (by rw [hac, List.take_of_length_le (l := ts) (by omega), hsay, Jfm hlt]), by omega⟩)
    ·as_aux_lemma =>
     clear hF
     rintro fr st' ⟨ac, hF, rfl, hac, han⟩
     simp only [Fs] at hF
     refine gn2 _ _ (Ka_ (gs := [none, none, none]) fun K1 gK => ?_)
     simp (disch := omega) [hF]
     refine gK _ _ ?_
     refine gk1 (i + 1) _ _ (by omega) ⟨ac, by simp [Fs, hF], by omega, fun j hj hji => by by_cases he : j = i; (subst he; exact hMi); exact hM j hj (by omega), hk.trans hk2, hac, han⟩
   | false =>
    refine Kt_ (by simp (disch := omega) []) (Ks_ (Ka_ (gs := [none, none, none]) fun K1 gK => ?_))
    simp (disch := omega) []
    refine gK _ _ (Kq_ (gr2 _ _ ?_))
    simp [Jx, Tryz.f19, hF]
    refine hR _ _ ?_
    exact ⟨⟨⟨0, 0⟩, by rw [Jc5 hlt hMi]; rfl, by rw [Jc5 hlt hMi]; rfl⟩, hk.trans hk2⟩
  ·
   refine Kf_ (by simp (disch := omega) [hlt]) ?_
   have hle : l.length ≤ i := by omega
   rw [List.take_of_length_le hle] at hacc
   exact Kx_ (gx1 _ _ ⟨acc, by simp [Fs, hF, hlt], JhX hM hle, hk, hacc⟩)
 ·as_aux_lemma =>
  clear hF
  rintro fr st' ⟨acc, hF, hM, hk, hacc⟩
  simp only [Fs] at hF
  refine Ks_ (Ka_ (gs := [none, none, none]) fun K1 gK => ?_)
  simp (disch := omega) [hF]
  refine gK _ _ (Kq_ (gr _ _ ?_))
  simp [Jx, Tryz.f19, hF]
  refine hR _ _ ?_
  exact ⟨⟨acc, by rw [hM]; rfl, by rw [hM, hacc]; rfl⟩, hk⟩
omit [Memo] [NY] [NZ] [NO] in
theorem sN (a b : S) (h : a.toList = b.toList) : a.same b = true := by
 rw [S.same_eq, h]; simp
variable [NA]
set_option maxHeartbeats 8000000 in
set_option maxRecDepth 100000 in
theorem law5 (gl : Gl) {aL : List V} (hh : Hits gl aL) (hw0 : gl.get 0 = some classV) (hw1 : gl.get 1 = some kindsV) (hw2 : gl.get 2 = some wordsV) (st : St) (lv : V) (l : List Sw) (hl : Row Sw.cells lv l) (hok : ∀ s ∈ l, s.ok) (hsz : ∀ s ∈ l, vtots s.cells ≤ 100000000) (hlen : l.length ≤ 1000000000) :
  Says Tryz.prog gl 5 [lv] st (fun v _st' => v = .bool true) := by
 refine Qa (NY.no _ rfl rfl rfl _ _) Tryz.func5 rfl (by kernel_rfl) fun R hR K gr gn => ?_
 generalize hfr : Jy gl [lv] = fr
 have hF : Fs gl [(0, lv)] fr := by subst hfr; simp [Fs]
 simp only [Fs] at hF
 clear hfr
 have ln := hl.len Tryz.underlying38
 obtain ⟨v, s1, hc1, ⟨b, rfl, hsm⟩, hk1⟩ := Says.use (JoH gl st lv l hl hok hsz (by omega))
 obtain ⟨v, sa, hca, rfl, hsa⟩ := Says.use (Jjj gl s1)
 rw [show sa = s1 from hsa] at hca
 clear hsa
 refine Ks_ (Ka_ (gs := [none]) fun K1 gK => ?_)
 simp (disch := omega) []
 refine gK _ _ (Ks_ (Ks_ (Ka_ (gs := [none, none]) fun K1 gK => ?_)))
 simp (disch := omega) [hF, hc1]
 refine gK _ _ ?_
 cases b with
 | true =>
  refine Kt_ (by simp (disch := omega) []) (Ks_ (Ka_ (gs := [none, none]) fun K1 gK => ?_))
  simp (disch := omega) [hF, hca]
  refine gK _ _ (Kq_ (gr _ _ ?_))
  simp [Jx, Tryz.f5, hF]
  refine hR _ _ ?_
  rfl
 | false =>
  refine Kf_ (by simp (disch := omega) []) ?_
  obtain ⟨hlen, hs⟩ := hsm rfl
  obtain ⟨v, s2, hc2, ⟨t2, rfl, ht2⟩, hk2⟩ := Says.use (JqA gl hh hw0 hw1 hw2 s1 lv l hl hok hs hlen)
  obtain ⟨v, s3, hc3, ⟨t3, rfl, ht3⟩, hk3⟩ := Says.use (JqB gl s2 lv l hl hok hs hlen)
  obtain ⟨v, s4, hc4, rfl, hk4⟩ := Says.use (Jmd gl s3 lv l hl hok (by omega))
  obtain ⟨M, hM⟩ : ∃ b, Jjz l = b := ⟨_, rfl⟩
  rw [hM] at hc2 hc3 ht2 ht3
  have hss := sN t2 t3 (ht2.trans ht3.symm)
  refine Kk_ (Ks_ (Ka_ (gs := [none, none, none, none, none, none, none]) fun K1 gK => ?_))
  simp (disch := omega) [hF, hc2]
  refine gK _ _ (Ks_ (Ka_ (gs := [none, none, none, none, none, none, none]) fun K1 gK => ?_))
  simp (disch := omega) [hF, hc3]
  refine gK _ _ (Ks_ (Ka_ (gs := [none, none, none, none, none, none, none, none, none]) fun K1 gK => ?_))
  simp (disch := omega) [hF, hc4, Jcy]
  refine gK _ _ (Ks_ (Ka_ (gs := [none, none, none]) fun K1 gK => ?_))
  simp (disch := omega) []
  refine gK _ _ (Ks_ (Ks_ (Ka_ (gs := [none]) fun K1 gK => ?_)))
  simp (disch := omega) []
  refine gK _ _ ?_
  refine Kl_ (l.length) (fun i fr st' => Fs gl [(0, lv), (3, .str t2), (4, .int .i64 ((cond M 0 4 : Nat) : Int)), (5, .str t3), (6, .int .i64 ((cond M 0 4 : Nat) : Int)), (7, .int .i64 (Jao 0 l : Int)), (8, .int .i64 (Jao 1 l : Int)), (9, .int .i64 (Jao 2 l : Int)), (10, .int .i64 (Jao 0 (l.take i) : Int)), (11, .int .i64 (Jao 1 (l.take i) : Int)), (12, .int .i64 (Jao 2 (l.take i) : Int)), (13, .int .i64 (i : Int))] fr ∧ i ≤ l.length) (0) (fun fr st' => Fs gl [(3, .str t2), (4, .int .i64 ((cond M 0 4 : Nat) : Int)), (5, .str t3), (6, .int .i64 ((cond M 0 4 : Nat) : Int)), (7, .int .i64 (Jao 0 l : Int)), (8, .int .i64 (Jao 1 l : Int)), (9, .int .i64 (Jao 2 l : Int)), (10, .int .i64 (Jao 0 l : Int)), (11, .int .i64 (Jao 1 l : Int)), (12, .int .i64 (Jao 2 l : Int))] fr ∧ True) ?_ ?_ ?_ ?_
  ·exact ⟨by simp [Fs, hF, Jao],  Nat.zero_le _⟩
  ·rintro i fr st' ⟨_, hi⟩
   omega
  ·as_aux_lemma =>
   clear hF
   rintro i fr st' ⟨hF, hi⟩ K5 gk5 gx5 go5
   simp only [Fs] at hF
   refine Ks_ (Ks_ (Ka_ (gs := [none, none, none, none]) fun K1 gK => ?_))
   simp (disch := omega) [hF, ln]
   refine gK _ _ ?_
   by_cases hlt : i < l.length
   ·
    refine Kt_ (by simp (disch := omega) [hlt]) ?_
    have hoi := hok _ (List.getElem_mem hlt)
    have hix := hl.ix (fun t _ => t.len12) Tryz.underlying38 Jjk (k := .i64) (a := (i : Int)) (by omega) (by omega)
    have hld := fun st => Jnt (st := st) hlt
    obtain ⟨v, s5, hc5, rfl, hk5⟩ := Says.use (Jm3 gl st' l[i] hoi)
    have hcl := JhW l[i]
    have h0 := Jb1 (k := 0) hlt
    have h1 := Jb1 (k := 1) hlt
    have h2 := Jb1 (k := 2) hlt
    have e0 := JdW 0 l i
    have e1 := JdW 1 l i
    have e2 := JdW 2 l i
    obtain ⟨n, hn⟩ : ∃ n, classN l[i] = n := ⟨_, rfl⟩
    rw [hn] at hc5 hcl h0 h1 h2
    have s00 : (S.ofList (QW 0)).same (S.ofList [115, 117, 99, 99, 101, 115, 115]) = true := by kernel_rfl
    have s10 : (S.ofList (QW 1)).same (S.ofList [115, 117, 99, 99, 101, 115, 115]) = false := by kernel_rfl
    have s20 : (S.ofList (QW 2)).same (S.ofList [115, 117, 99, 99, 101, 115, 115]) = false := by kernel_rfl
    have s11 : (S.ofList (QW 1)).same (S.ofList [102, 97, 105, 108, 117, 114, 101]) = true := by kernel_rfl
    have s21 : (S.ofList (QW 2)).same (S.ofList [102, 97, 105, 108, 117, 114, 101]) = false := by kernel_rfl
    refine Kk_ (Ks_ ?_)
    refine Kb_ fun K6 gn6 gx6 go6 => ?_
    refine Ks_ (Ka_ (gs := [none, none, none, none, none]) fun K1 gK => ?_)
    simp (disch := omega) [hF, hlt, hix, hld, hc5]
    refine gK _ _ ?_
    refine Kb_ fun K7 gn7 gx7 go7 => ?_
    by_cases hn0 : n = 0
    ·
     subst hn0
     refine Ks_ (Ka_ (gs := [none, none]) fun K1 gK => ?_)
     simp (disch := omega) [s00]
     refine gK _ _ (Kt_ (by simp (disch := omega) []) (Ka_ (gs := [none, none, none]) fun K1 gK => ?_))
     simp (disch := omega) [hF]
     refine gK _ _ (gn7 _ _ (gn6 _ _ (Ka_ (gs := [none, none, none]) fun K1 gK => ?_)))
     simp (disch := omega) [hF]
     refine gK _ _ ?_
     refine gk5 (i + 1) _ _ (by omega) ⟨by simp [Fs, hF, h0, h1, h2, JoB, JoC],  by omega⟩
    ·
     by_cases hn1 : n = 1
     ·
      subst hn1
      refine Ks_ (Ka_ (gs := [none, none]) fun K1 gK => ?_)
      simp (disch := omega) [s10]
      refine gK _ _ (Kf_ (by simp (disch := omega) []) (Ks_ (Ka_ (gs := [none, none]) fun K1 gK => ?_)))
      simp (disch := omega) [s11]
      refine gK _ _ (Kt_ (by simp (disch := omega) []) (Ka_ (gs := [none, none, none]) fun K1 gK => ?_))
      simp (disch := omega) [hF]
      refine gK _ _ (gn7 _ _ (gn6 _ _ (Ka_ (gs := [none, none, none]) fun K1 gK => ?_)))
      simp (disch := omega) [hF]
      refine gK _ _ ?_
      refine gk5 (i + 1) _ _ (by omega) ⟨by simp [Fs, hF, h0, h1, h2, JoD, JoE],  by omega⟩
     ·
      have hn2 : n = 2 := by omega
      subst hn2
      refine Ks_ (Ka_ (gs := [none, none]) fun K1 gK => ?_)
      simp (disch := omega) [s20]
      refine gK _ _ (Kf_ (by simp (disch := omega) []) (Ks_ (Ka_ (gs := [none, none]) fun K1 gK => ?_)))
      simp (disch := omega) [s21]
      refine gK _ _ (Kf_ (by simp (disch := omega) []) (Ka_ (gs := [none, none, none]) fun K1 gK => ?_))
      simp (disch := omega) [hF]
      refine gK _ _ (gn7 _ _ (gn6 _ _ (Ka_ (gs := [none, none, none]) fun K1 gK => ?_)))
      simp (disch := omega) [hF]
      refine gK _ _ ?_
      refine gk5 (i + 1) _ _ (by omega) ⟨by simp [Fs, hF, h0, h1, h2, JoF, JoG],  by omega⟩
   ·
    refine Kf_ (by simp (disch := omega) [hlt]) ?_
    exact Kx_ (gx5 _ _ ⟨by (rw [List.take_of_length_le (by omega)] at hF; simp [Fs, hF]), trivial⟩)
  ·as_aux_lemma =>
   clear hF
   rintro fr st' ⟨hF, _⟩
   simp only [Fs] at hF
   obtain ⟨q, rfl⟩ : ∃ q, q = st' := ⟨_, rfl⟩
   obtain ⟨v, u5, hd5, rfl, hg5⟩ := Says.use (Jjj gl q)
   rw [show u5 = q from hg5] at hd5
   refine Ks_ (Ka_ (gs := [none, none, none, none, some (some 57, true), some (some 57, true), some (some 57, true), none, none, some (some 62, true), some (some 62, true), some (some 62, true), none, none, some (some 67, true), some (some 67, true), some (some 67, true), none, none, some (some 72, true), some (some 72, true), some (some 72, true), none, none, some (some 77, true), none, none]) fun K1 gK => ?_)
   refine OkG.cutK 9 (fun fr st' => Fs gl [(7, .int .i64 (Jao 0 l : Int)), (8, .int .i64 (Jao 1 l : Int)), (9, .int .i64 (Jao 2 l : Int)), (10, .int .i64 (Jao 0 l : Int)), (11, .int .i64 (Jao 1 l : Int)), (12, .int .i64 (Jao 2 l : Int)), (62, .bool true)] fr ∧ q = st') (by kernel_rfl) ?_ ?_
   ·as_aux_lemma =>
    intro Kc gKc
    simp only [List.take]
    simp (disch := omega) [hF, hss]
    exact gKc _ _ ⟨by simp [Fs, hF], rfl⟩
   ·as_aux_lemma =>
    clear hF
    rintro fr st' ⟨hF, rfl⟩
    simp only [Fs] at hF
    simp only [List.drop]
    refine OkG.cutK 5 (fun fr st' => Fs gl [(8, .int .i64 (Jao 1 l : Int)), (9, .int .i64 (Jao 2 l : Int)), (11, .int .i64 (Jao 1 l : Int)), (12, .int .i64 (Jao 2 l : Int)), (67, .bool true)] fr ∧ q = st') (by kernel_rfl) ?_ ?_
    ·as_aux_lemma =>
     intro Kc gKc
     simp only [List.take]
     simp (disch := omega) [hF]
     exact gKc _ _ ⟨by simp [Fs, hF], rfl⟩
    ·as_aux_lemma =>
     clear hF
     rintro fr st' ⟨hF, rfl⟩
     simp only [Fs] at hF
     simp only [List.drop]
     refine OkG.cutK 5 (fun fr st' => Fs gl [(9, .int .i64 (Jao 2 l : Int)), (12, .int .i64 (Jao 2 l : Int)), (72, .bool true)] fr ∧ q = st') (by kernel_rfl) ?_ ?_
     ·as_aux_lemma =>
      intro Kc gKc
      simp only [List.take]
      simp (disch := omega) [hF]
      exact gKc _ _ ⟨by simp [Fs, hF], rfl⟩
     ·as_aux_lemma =>
      clear hF
      rintro fr st' ⟨hF, rfl⟩
      simp only [Fs] at hF
      simp only [List.drop]
      refine OkG.cutK 5 (fun fr st' => Fs gl [(77, .bool true)] fr ∧ q = st') (by kernel_rfl) ?_ ?_
      ·as_aux_lemma =>
       intro Kc gKc
       simp only [List.take]
       simp (disch := omega) [hF]
       exact gKc _ _ ⟨by simp [Fs, hF], rfl⟩
      ·as_aux_lemma =>
       clear hF
       rintro fr st' ⟨hF, rfl⟩
       simp only [Fs] at hF
       simp only [List.drop]
       simp (disch := omega) [hF, hd5]
       refine gK _ _ (Kq_ (gr _ _ ?_))
       simp [Jx, Tryz.f5, hF]
       refine hR _ _ ?_
       rfl
end Go.Vm
