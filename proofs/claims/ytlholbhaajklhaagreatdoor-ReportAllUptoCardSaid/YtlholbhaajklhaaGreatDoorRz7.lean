/- Lines of facts: by the document, all. -/
import Derived.Test.YtlholbhaajklhaaGreatDoorRz6
namespace Go.Vm
open Go Go.Proofs Go.Pa
attribute [local simp] OkG Qu QB OkD Qd Qn JS Jh Jn vop Ju JG ev evs toV Jm Fr.dsTo Fr.glTo Fr.toNone Jj Jk Jl Qj QN Jc JL Jv V.undef J5 JV Qo Qg Qh Qk Qp Qq JU J8 Qr Ql JX Qs JC JF JE Jz JM Jo JW J2 JbG JbH Jai Jbx Jeb Jec fg0 fg1 fg2 fg3 fg4 fg5 fh0 fh1 JK Qb Jp Jav Jw
theorem Jfd {f : Fw} (h : Ja8 f = true) : f.kind ≤ 3 ∧ (f.known = false → f.kind = 0) ∧ (Jbn f = false → f.names = [] ∧ f.rest = 0 ∧ f.beside = 0) ∧ (Jbn f = true → (f.rest = 2 ∧ 0 ≤ f.beside ∧ f.beside ≤ (f.names.length : Int)) ∨ ((f.rest = 0 ∨ f.rest = 1) ∧ f.beside = 0)) := by
 unfold Ja8 at h
 cases hh : Jde f with
 | false => rw [hh] at h; cases h
 | true =>
  rw [hh] at h
  unfold Jde at hh
  rw [Bool.and_eq_true, Bool.and_eq_true] at hh
  refine ⟨of_decide_eq_true hh.1.1, fun hk => ?_, fun hd => ?_, fun hd => ?_⟩
  ·have := hh.1.2
   rw [hk] at this
   simpa using this
  ·rw [hd] at h
   simp only [cond_true, cond_false, JiW, Bool.and_eq_true, decide_eq_true_eq] at h
   exact ⟨List.length_eq_zero_iff.1 h.1.1, h.1.2, h.2⟩
  ·rw [hd] at h
   simp only [cond_true, Bool.and_eq_true] at h
   have hr := h.2
   unfold Jgf at hr
   by_cases h2 : f.rest = 2
   ·rw [decide_eq_true h2] at hr
    simp only [cond_true, Bool.and_eq_true, decide_eq_true_eq] at hr
    exact .inl ⟨h2, hr.1, hr.2⟩
   ·rw [decide_eq_false h2] at hr
    simp only [cond_false, Bool.and_eq_true, Bool.or_eq_true, decide_eq_true_eq] at hr
    exact .inr hr
theorem Jja {f : Fw} (hs : f.small) {p : List S} (hp : ∀ s ∈ p, s.n ≤ 300) {j : Nat} (hj : j < f.names.length) : ∀ s ∈ p ++ [f.names[j]], s.n ≤ 300 := fun s hm => by
 rcases List.mem_append.1 hm with h | h
 ·exact hp s h
 ·rw [List.mem_singleton.1 h]; exact hs.text _ (List.getElem_mem hj)
theorem Jle : ∀ m, m ≤ 60 → (Jdw m).length ≤ 100 := by decide
theorem Jgv {f : Fw} (h : Ja8 f = true) (hs : f.small) : (JcE f).length ≤ 200 := by
 obtain ⟨hk3, hkn0, hnd, hyd⟩ := Jfd h
 unfold JcE
 cases !f.known <;> simp only [cond_true, cond_false, List.length_cons, List.length_nil] <;> try omega
 cases decide (f.kind = 0) <;> simp only [cond_true, cond_false, List.length_cons, List.length_nil] <;> try omega
 cases decide (f.kind = 1) <;> simp only [cond_true, cond_false, List.length_cons, List.length_nil] <;> try omega
 cases decide (f.kind = 3) <;> simp only [cond_true, cond_false, List.length_cons, List.length_nil] <;> try omega
 cases decide (f.rest = 1) <;> simp only [cond_true, cond_false, List.length_cons, List.length_nil] <;> try omega
 cases h2 : decide (f.rest = 2) <;> simp only [cond_true, cond_false, List.length_cons, List.length_nil, List.length_append] <;> try omega
 have h2 := of_decide_eq_true h2
 have : f.beside.toNat ≤ 60 := by
  have := hs.names
  cases hd : Jbn f with
  | true => rcases hyd hd with h | h <;> omega
  | false => have := hnd hd; omega
 have := Jle _ this
 omega
theorem Jjb {α β : Type} {f : α → List β} : ∀ {L : List α}, (∀ q ∈ L, (f q).length ≤ 60) → (L.flatMap f).length ≤ 60 * L.length
 | [], _ => Nat.le_refl _
 | a :: L, h => by
  have := Jjb (L := L) fun q hq => h q (by simp [hq])
  have := h a (by simp)
  rw [List.flatMap_cons, List.length_append, List.length_cons]; omega
theorem JmT {α β : Type} {a : List α} {b : List β} {i : Nat} (hi : i < a.length) (hi' : i < b.length) : (a.zip b).take (i + 1) = (a.zip b).take i ++ [(a[i], b[i])] := by
 rw [List.take_add_one, List.getElem?_eq_getElem (by simp; omega), List.getElem_zip]; rfl
theorem Jdf {lo : Nat} {st : St} {id : Nat} {cs : List V} (hlo : lo ≤ id) (hid : id < st.ctr) (hb : st.box.get id = some (.cells cs 9 true (some 0))) : Mine lo 9 st (.ms id 0 cs.length 1 (some cs.length)) cs := Mine.mk hlo hid hb rfl
variable [Memo] [NY] [NZ]
set_option maxHeartbeats 2000000 in
set_option maxRecDepth 100000 in
theorem Jkf (gl : Gl) (x : V) (l : List Fw) (hx : Row Fw.cells x l) (hok : ∀ f ∈ l, f.ok) (hs : ∀ f ∈ l, f.small) (hl : l.length ≤ 60) (hm : MayF l) (d n : Nat) (p : List S) (hn : n < l.length) (hpn : p.length ≤ n) (hps : ∀ s ∈ p, s.n ≤ 300) (hd1 : l.length - n ≤ d + 1) (hlt1 : ∀ (k : Nat) (q : List S), k < l.length → l.length - k ≤ d → (Qy l d k q).length ≤ 60) (ih : ∀ (j : Nat) (hj : j < l[n].kids.length) (hj' : j < l[n].names.length) (st : St) (y : V), Vw st y (p ++ [l[n].names[j]]) → Says Tryz.prog gl 50 [x, .int .i64 l[n].kids[j], y] st fun v st' => (∃ ts : List S, ts.map S.toList = (Qy l d l[n].kids[j].toNat (p ++ [l[n].names[j]])).map (JcF l) ∧ Mine st.ctr 9 st' v (ts.map .str)) ∧ Keep st st') (st : St) (y : V) (hy : Vw st y p) :
  Says Tryz.prog gl 50 [x, .int .i64 (n : Int), y] st (fun v st' => (∃ ts : List S, ts.map S.toList = (Qy l (d + 1) n p).map (JcF l) ∧ Mine st.ctr 9 st' v (ts.map .str)) ∧ Keep st st') := by
 refine Qa (NY.no _ rfl rfl rfl _ _) Tryz.func50 rfl (by kernel_rfl) fun R hR K gr gn => ?_
 generalize hfr : Jy gl [x, .int .i64 (n : Int), y] = fr
 have hF : Fs gl [(0, x), (1, .int .i64 (n : Int)), (2, y)] fr := by subst hfr; simp [Fs]
 simp only [Fs] at hF
 clear hfr
 have hix : ∀ {k : IntKind} {a : Int}, 0 ≤ a → a < (l.length : Int) → Je Tryz.prog 22 x (.int k a) = some (.cp (JcD Fw.cells l a.toNat)) := fun h0 h1 => hx.ix (fun f _ => f.len6) Tryz.underlying22 z38 h0 h1
 have hfo := hok _ (List.getElem_mem hn)
 have hfs := hs _ (List.getElem_mem hn)
 have hone := hm.one n hn
 have hlen := Jdr hone
 have w1 := Jcs st hfo
 have kq1 := Jc1 st l[n]
 have bf1 := Jdo st l[n]
 have cf1 := Jdp st l[n]
 generalize JbO st l[n] = q1 at w1 kq1 bf1 cf1
 have l0 := Jb (P := Tryz.prog) (off := 0) a4 z4 bf1 rfl
 have l1 := Jb (P := Tryz.prog) (off := 1) a5 z5 bf1 rfl
 have l4 := Jb (P := Tryz.prog) (off := 4) a3 z3 bf1 rfl
 have l5 := Jb (P := Tryz.prog) (off := 5) a3 z3 bf1 rfl
 obtain ⟨v, q2, hcs, ⟨pt, rfl, hpt⟩, hq2⟩ := Says.use (Jgu gl q1 y p (hy.keep kq1) (by omega) hps)
 rw [show q2 = q1 from hq2] at hcs
 clear hq2
 have hpn1 : pt.n ≤ 18061 := by
  have h1 := congrArg List.length hpt
  rw [S.len] at h1
  by_cases h0 : p = []
  ·rw [h0] at h1; simp [Jck] at h1; omega
  ·rw [Jgt h0] at h1
   have := Jdx p hps
   omega
 obtain ⟨v, q3, hcp, ⟨et, rfl, het⟩, hq3⟩ := Says.use (JmS gl q1 pt (by omega))
 rw [show q3 = q1 from hq3] at hcp
 clear hq3
 have hetn : et.n ≤ 40000 := by
  have h1 := congrArg List.length het
  have h2 := QK pt.toList
  rw [S.len] at h1 h2
  omega
 have ad0 : ∀ kk, Jd Tryz.prog kk .add 9 (.str et) (.str (S.ofList [58, 32])) = some (.str (et.app (S.ofList [58, 32]))) := fun kk => JA (by rw [Jf]; simp; omega)
 obtain ⟨b, hb⟩ : ∃ b, et.app (S.ofList [58, 32]) = b := ⟨_, rfl⟩
 have hbl : b.toList = esc (Jck p) ++ [58, 32] := by rw [← hb, S.toList_app, het, hpt, S.toList_ofList]
 have hbn : b.n ≤ 40002 := by rw [← hb, QZ, Jf]; simp; omega
 rw [hb] at ad0
 have ads : ∀ kk (r : List UInt8), r.length ≤ 1000 → Jd Tryz.prog kk .add 9 (.str b) (.str (S.ofList r)) = some (.str (b.app (S.ofList r))) := fun kk r hr => JA (by rw [Jf]; omega)
 refine Ks_ (Ka_ (gs := [none]) fun K1 gK => ?_)
 simp (disch := omega) []
 refine gK _ _ (Ks_ (Ka_ (gs := [none, none, none, none, none, none]) fun K1 gK => ?_))
 simp (disch := omega) [hF, hix, flp, QG, w1, JN]
 refine gK _ _ (Ks_ (Ka_ (gs := [none, none, none, none, none]) fun K1 gK => ?_))
 simp (disch := omega) [hF, hcs, hcp, ad0]
 refine gK _ _ ?_
 obtain ⟨kn, hkn⟩ : ∃ b, l[n].known = b := ⟨_, rfl⟩
 have key : ∀ (r : List UInt8), JcE l[n] = r → (b.app (S.ofList r)).toList = JhF l[n] p := fun r hr => by rw [S.toList_app, hbl, S.toList_ofList, ← hr]; rfl
 obtain ⟨hk3, hkn0, hnd, hyd⟩ := Jfd hone
 refine Ks_ ?_
 refine Km_ (fun fr st' => ∃ (t : S), Fs gl [(0, x), (2, y), (7, .ptr st.ctr 0), (8, .str t)] fr ∧ t.toList = JhF l[n] p ∧ q1 = st') ?_ ?_
 ·as_aux_lemma =>
  intro K1 gm1 go1
  have hre : ∀ kk c, Jd Tryz.prog kk .eql 3 (.int .i64 l[n].rest) (.int .i64 c) = some (.bool (decide (l[n].rest = c))) := fun kk c => Qc
  refine Kb_ fun K2 gn2 gx2 go2 => ?_
  refine Ks_ (Ka_ (gs := [none, none, none, none]) fun K1 gK => ?_)
  simp (disch := omega) [l0, hkn]
  refine gK _ _ ?_
  cases kn with
  | true =>
   refine Kf_ (by simp (disch := omega) []) (Ks_ (Ka_ (gs := [none, none, none, none]) fun K1 gK => ?_))
   simp (disch := omega) [l1]
   refine gK _ _ ?_
   by_cases h0 : l[n].kind = 0
   ·
    refine Kt_ (by simp (disch := omega) [h0]) ?_
    have a1 := fun kk => ads kk [97, 98, 115, 101, 110, 116] (by simp)
    refine Ka_ (gs := [none, none, none]) fun K1 gK => ?_
    simp (disch := omega) [h0, a1]
    refine gK _ _ (gn2 _ _ ?_)
    exact gm1 _ _ ⟨b.app (S.ofList [97, 98, 115, 101, 110, 116]), by simp [Fs, hF], key _ (by simp [JcE, hkn, h0]), rfl⟩
   ·
    refine Kf_ (by simp (disch := omega) [h0]) (Ks_ (Ka_ (gs := [none, none, none, none]) fun K1 gK => ?_))
    simp (disch := omega) [l1, h0]
    refine gK _ _ ?_
    by_cases h1 : l[n].kind = 1
    ·
     refine Kt_ (by simp (disch := omega) [h1]) ?_
     have a1 := fun kk => ads kk [102, 105, 108, 101] (by simp)
     refine Ka_ (gs := [none, none, none]) fun K1 gK => ?_
     simp (disch := omega) [h1, a1]
     refine gK _ _ (gn2 _ _ ?_)
     exact gm1 _ _ ⟨b.app (S.ofList [102, 105, 108, 101]), by simp [Fs, hF], key _ (by simp [JcE, hkn, h1]), rfl⟩
    ·
     refine Kf_ (by simp (disch := omega) [h1]) (Ks_ (Ka_ (gs := [none, none, none, none]) fun K1 gK => ?_))
     simp (disch := omega) [l1, h1]
     refine gK _ _ ?_
     by_cases h3 : l[n].kind = 3
     ·
      refine Kt_ (by simp (disch := omega) [h3]) ?_
      have a1 := fun kk => ads kk [108, 105, 110, 107] (by simp)
      refine Ka_ (gs := [none, none, none]) fun K1 gK => ?_
      simp (disch := omega) [h3, a1]
      refine gK _ _ (gn2 _ _ ?_)
      exact gm1 _ _ ⟨b.app (S.ofList [108, 105, 110, 107]), by simp [Fs, hF], key _ (by simp [JcE, hkn, h3]), rfl⟩
     ·
      refine Kf_ (by simp (disch := omega) [h3]) (Ks_ (Ka_ (gs := [none, none, none, none]) fun K1 gK => ?_))
      simp (disch := omega) [l4, hre, h3]
      refine gK _ _ ?_
      by_cases hr1 : l[n].rest = 1
      ·
       refine Kt_ (by simp (disch := omega) [hr1]) ?_
       have a1 := fun kk => ads kk [100, 105, 114, 32, 119, 104, 111, 108, 101] (by simp)
       refine Ka_ (gs := [none, none, none]) fun K1 gK => ?_
       simp (disch := omega) [hr1, a1]
       refine gK _ _ (gn2 _ _ ?_)
       exact gm1 _ _ ⟨b.app (S.ofList [100, 105, 114, 32, 119, 104, 111, 108, 101]), by simp [Fs, hF], key _ (by simp [JcE, hkn, h0, h1, h3, hr1]), rfl⟩
      ·
       refine Kf_ (by simp (disch := omega) [hr1]) (Ks_ (Ka_ (gs := [none, none, none, none]) fun K1 gK => ?_))
       simp (disch := omega) [l4, hre, hr1]
       refine gK _ _ ?_
       by_cases hr2 : l[n].rest = 2
       ·
        refine Kt_ (by simp (disch := omega) [hr2]) ?_
        have hd : Jbn l[n] = true := by unfold Jbn; rw [hkn, decide_eq_true (by omega)]; rfl
        have hbe : 0 ≤ l[n].beside ∧ l[n].beside ≤ 60 := by
         have := hfs.names
         rcases hyd hd with h | h
         ·omega
         ·omega
        obtain ⟨nb, hnb⟩ := Int.eq_ofNat_of_zero_le hbe.1
        obtain ⟨v, q4, hcd, ⟨dt, rfl, hdt⟩, hq4⟩ := Says.use (JhH gl q1 nb (by omega))
        rw [show q4 = q1 from hq4] at hcd
        have a1 := fun kk => ads kk [100, 105, 114, 32, 109, 111, 114, 101, 32] (by simp)
        have hdn : dt.n ≤ 100 := by
         have h1 := congrArg List.length hdt
         rw [S.len] at h1
         rw [h1]
         have : ∀ m, m ≤ 60 → (Jdw m).length ≤ 100 := by decide
         exact this nb (by omega)
        have a2 : ∀ kk, Jd Tryz.prog kk .add 9 (.str (b.app (S.ofList [100, 105, 114, 32, 109, 111, 114, 101, 32]))) (.str dt) = some (.str ((b.app (S.ofList [100, 105, 114, 32, 109, 111, 114, 101, 32])).app dt)) := fun kk => JA (by rw [QZ, Jf]; simp; omega)
        refine Ka_ (gs := [none, none, none, none, none, none, none]) fun K1 gK => ?_
        simp (disch := omega) [hF, l5, hr2, a1, a2, hnb, hcd]
        refine gK _ _ (gn2 _ _ ?_)
        exact gm1 _ _ ⟨(b.app (S.ofList [100, 105, 114, 32, 109, 111, 114, 101, 32])).app dt, by simp [Fs, hF], by rw [S.toList_app, S.toList_app, hbl, S.toList_ofList, hdt]; simp [JhF, JcE, hkn, h0, h1, h3, hr2, hnb], rfl⟩
       ·
        refine Kf_ (by simp (disch := omega) [hr2]) ?_
        have a1 := fun kk => ads kk [100, 105, 114] (by simp)
        refine Ka_ (gs := [none, none, none]) fun K1 gK => ?_
        simp (disch := omega) [hr2, a1]
        refine gK _ _ (gn2 _ _ ?_)
        exact gm1 _ _ ⟨b.app (S.ofList [100, 105, 114]), by simp [Fs, hF], key _ (by simp [JcE, hkn, h0, h1, h3, hr1, hr2]), rfl⟩
  | false =>
   refine Kt_ (by simp (disch := omega) []) ?_
   have a1 := fun kk => ads kk [97, 110, 121] (by simp)
   refine Ka_ (gs := [none, none, none]) fun K1 gK => ?_
   simp (disch := omega) [a1]
   refine gK _ _ (gn2 _ _ ?_)
   exact gm1 _ _ ⟨b.app (S.ofList [97, 110, 121]), by simp [Fs, hF], key _ (by simp [JcE, hkn]), rfl⟩
 ·as_aux_lemma =>
  clear hF
  rintro fr st' ⟨t, hF, ht, rfl⟩
  simp only [Fs] at hF
  have htn : t.n ≤ 50000 := by
   have h1 := congrArg List.length ht
   rw [S.len] at h1
   rw [h1]
   unfold JhF
   have h2 := congrArg List.length hbl
   rw [S.len] at h2
   rw [List.length_append]
   rw [← h2]
   have : (JcE l[n]).length ≤ 200 := Jgv hone hfs
   omega
  have hq := Jih (lo := st.ctr + 1) (st := q1) (cs := [.str t]) cf1
  have hfold : ({ ctr := q1.ctr + 1, box := q1.box.put q1.ctr (.cells [.str t] 9 true (some 0)) } : St) = q1.new (.cells [.str t] 9 true (some 0)) := rfl
  simp only [List.length_cons, List.length_nil] at hq
  have lk3 := Jb (P := Tryz.prog) (off := 3) a36 z36 bf1 rfl
  have lkn := hfo.kids.len Tryz.underlying45
  have hk60 := hfs.kids
  have kq2 := kq1.new' (.cells [.str t] 9 true (some 0))
  refine Ks_ (Ka_ (gs := [none, none, none]) fun K1 gK => ?_)
  simp (disch := omega) [hF, bs1, hfold, Jt, JN]
  refine gK _ _ (Ks_ (Ks_ (Ka_ (gs := [none]) fun K1 gK => ?_)))
  simp (disch := omega) []
  refine gK _ _ ?_
  refine Kl_ (l[n].kids.length) (fun i fr st' => ∃ (out : V) (ts : List S), Fs gl [(0, x), (2, y), (7, .ptr st.ctr 0), (9, out), (10, .int .i64 (i : Int))] fr ∧ i ≤ l[n].kids.length ∧ Keep st st' ∧ st'.box.get st.ctr = some (.cells l[n].cells 47 true (some 0)) ∧ st.ctr < st'.ctr ∧ Mine (st.ctr + 1) 9 st' out (ts.map .str) ∧ ts.map S.toList = (((n, p) :: ((l[n].kids.zip l[n].names).take i).flatMap fun q => Qy l d q.1.toNat (p ++ [q.2])).map (JcF l))) (0) (fun fr st' => ∃ (out : V) (ts : List S), Fs gl [(9, out)] fr ∧ Keep st st' ∧ Mine (st.ctr + 1) 9 st' out (ts.map .str) ∧ ts.map S.toList = (Qy l (d + 1) n p).map (JcF l)) ?_ ?_ ?_ ?_
  ·exact ⟨.ms q1.ctr 0 1 1 (some 1), [t], by simp [Fs, hF], Nat.zero_le _, kq2, by (rw [Js, if_neg (by omega)]; exact bf1), by (rw [J3]; omega), hq, by simp [JcF, hn, ht]⟩
  ·rintro i fr st' ⟨out, ts, _, hi, hk, hbf, hct, hmine, hts⟩
   omega
  ·as_aux_lemma =>
   clear hF
   rintro i fr st' ⟨out, ts, hF, hi, hk, hbf, hct, hmine, hts⟩ K3 gk3 gx3 go3
   simp only [Fs] at hF
   have lk' := Jb (P := Tryz.prog) (off := 3) a36 z36 hbf rfl
   have ln' := Jb (P := Tryz.prog) (off := 2) a23 z23 hbf rfl
   refine Ks_ (Ks_ (Ka_ (gs := [none, none, none, none, none]) fun K1 gK => ?_))
   simp (disch := omega) [hF, lk', lkn]
   refine gK _ _ ?_
   by_cases hlt : i < l[n].kids.length
   ·
    refine Kt_ (by simp (disch := omega) [hlt]) ?_
    have hlt' : i < l[n].names.length := by omega
    have hkd := fun st => ilp (st := st) hlt
    have hks := hfo.kids.ix (z := 1) (fun _ _ => rfl) Tryz.underlying45 z3 (k := .i64) (a := (i : Int)) (by omega) (by omega)
    have hnd := fun st => (hfo.names.vw st).ld z9 a9 hlt'
    have hns := (hfo.names.vw st).ix Tryz.underlying23 z9 (k := .i64) (a := (i : Int)) (by omega) (by omega)
    have hkr := hm.kid n hn _ (List.getElem_mem hlt)
    have hy' := hy.keep hk
    obtain ⟨sA, hsA⟩ : ∃ s : St, s = { ctr := st'.ctr + 20, box := st'.box.put (st'.ctr + 7) (.cells [] 9 true (some 0)) } := ⟨_, rfl⟩
    have kA : Keep st' sA := by rw [hsA]; exact ((Keep.refl st').tick 20).put (by omega) _
    have cA : sA.ctr = st'.ctr + 20 := by rw [hsA]
    have gA : sA.box.get (st'.ctr + 7) = some (.cells [] 9 true (some 0)) := by rw [hsA]; simp [Tr.get_put]
    have m7 := Jdf (lo := st'.ctr) (by omega) (by omega) gA
    obtain ⟨y9, s9, e9, low9, m9, v9⟩ := Jds m7 (hy'.keep kA).srcs (by omega) (by simp; omega)
    simp only [List.length_nil] at e9 m7 v9
    have c9 := low9.ctr
    obtain ⟨sC, hsC⟩ : ∃ s : St, s = { ctr := s9.ctr, box := s9.box.put (st'.ctr + 15) (.cells [.str l[n].names[i]] 9 true (some 0)) } := ⟨_, rfl⟩
    have gC : sC.box.get (st'.ctr + 15) = some (.cells [.str l[n].names[i]] 9 true (some 0)) := by rw [hsC]; simp [Tr.get_put]
    have cC : sC.ctr = s9.ctr := by rw [hsC]
    have oC : ∀ j, j ≠ st'.ctr + 15 → sC.box.get j = s9.box.get j := fun j hj => by rw [hsC]; show (s9.box.put (st'.ctr + 15) _).get j = _; rw [Tr.get_put, if_neg hj]
    have m9' : Mine st'.ctr 9 sC y9 ([] ++ p.map .str) := m9.stab (by omega) fun j hj => oC j (by
     rcases v9 j hj with h | h
     ·have : j = st'.ctr + 7 := h
      omega
     ·omega)
    have mC := (Jdf (lo := st'.ctr) (by omega) (by omega) gC).src rfl
    obtain ⟨y16, s16, e16, low16, m16, v16⟩ := Jds m9' mC (by omega) (by simp; omega)
    simp only [List.length_cons, List.length_nil] at e16
    have hm16 : Mine st'.ctr 9 s16 y16 ((p ++ [l[n].names[i]]).map .str) := by simpa using m16
    obtain ⟨v, s17, hcl, ⟨ts2, hts2, m17⟩, k17⟩ := Says.use (ih i hlt hlt' s16 y16 hm16.vw)
    have c16 := low16.ctr
    have lowA : Low st'.ctr st' s16 := ((Low.of kA (Nat.le_refl _)).trans low9).trans (⟨by omega, fun j hj => by rw [low16.box j hj, oC j (by omega)]⟩)
    have low9' : Low st'.ctr st' s9 := (Low.of kA (Nat.le_refl _)).trans low9
    have k17' : Keep st' s17 := Low.keep (lowA.trans (Low.of k17 (by omega))) (.refl _) (Nat.le_refl _)
    have hlen2 : ts2.length ≤ 60 := by
     have h1 := congrArg List.length hts2
     rw [List.length_map, List.length_map] at h1
     rw [h1]
     exact hlt1 _ _ (by omega) (by omega)
    have hlen1 : ts.length ≤ 1 + 60 * i := by
     have h1 := congrArg List.length hts
     rw [List.length_map, List.length_map, List.length_cons] at h1
     have h2 := Jjb (f := fun q : Int × S => Qy l d q.1.toNat (p ++ [q.2])) (L := (l[n].kids.zip l[n].names).take i) fun q hq => by
      have hk := hm.kid n hn q.1 (List.of_mem_zip (List.mem_of_mem_take hq)).1
      exact hlt1 _ _ (by omega) (by omega)
     have h3 : ((l[n].kids.zip l[n].names).take i).length ≤ i := by simp; omega
     have := Nat.mul_le_mul_left 60 h3
     omega
    have c17 := k17'.ctr
    obtain ⟨y18, s18, e18, low18, m18, v18⟩ := Jds (hmine.keep k17') (m17.src (JfZ ts2)) (by omega) (by simp; omega)
    have lk9 := Jb (P := Tryz.prog) (st := s9) (off := 3) a36 z36 (by rw [low9'.box _ hct]; exact hbf) rfl
    have ln9 := Jb (P := Tryz.prog) (st := s9) (off := 2) a23 z23 (by rw [low9'.box _ hct]; exact hbf) rfl
    have lk16 := Jb (P := Tryz.prog) (st := s16) (off := 3) a36 z36 (by rw [lowA.box _ hct]; exact hbf) rfl
    have vqk : veq 1000000000 l[n].kv l[n].kv = true := Qi _ (by have := Jgm hfo.kids; omega)
    have vqn : veq 1000000000 l[n].nv l[n].nv = true := Qi _ (by have := JaG hfo.names; have := hfs.names; omega)
    have hsA' := hsA.symm
    have hsC' := hsC.symm
    refine Kk_ (Ks_ ?_)
    refine Kb_ fun K4 gn4 gx4 go4 => ?_
    refine Kj_ (b := [0, 0, 0, 4, 0, 28, 60, 0, 0, 384, 0, 1024, 0, 7168, 15360, 31744, 65408, 131070, 262143, 524287]) (rs := [(7, 10), (1, 6), (17, 1), (0, 1), (18, 2)]) fun K1 gK => ?_
    simp (disch := omega) [hF, bs1, lk', hlt, hkd, hks, hnd, hns, hsA', hsC', e9, e16, hcl, e18, ln', lk9, ln9, lk16, vqk, vqn, bs0, bs1, Jt, JN, Tryz.underlying23]
    refine gK _ _ (gn4 _ _ (Ka_ (gs := [none, none, none]) fun K1 gK => ?_))
    simp (disch := omega) [hF]
    refine gK _ _ ?_
    refine gk3 (i + 1) _ _ (by omega) ⟨y18, ts ++ ts2, by simp [Fs, hF], by omega, Low.keep low18 (hk.trans k17') (by omega), by (rw [low18.box _ (by omega), k17'.box _ hct]; exact hbf), by (have := low18.ctr; omega), by simpa using m18, by (rw [List.map_append, hts, hts2, ← List.map_append, List.cons_append, JmT hlt hlt']; simp)⟩
   ·
    refine Kf_ (by simp (disch := omega) [hlt]) ?_
    exact Kx_ (gx3 _ _ ⟨out, ts, by simp [Fs, hF, hlt], hk, hmine, by (rw [hts]; simp only [Qy, List.getElem?_eq_getElem hn]; rw [List.take_of_length_le (by simp; omega)])⟩)
  ·as_aux_lemma =>
   clear hF
   rintro fr st' ⟨out, ts, hF, hk, hmine, hts⟩
   simp only [Fs] at hF
   refine Ks_ (Ka_ (gs := [none, none]) fun K1 gK => ?_)
   simp (disch := omega) [hF]
   refine gK _ _ (Kq_ (gr _ _ ?_))
   simp [Jx, Tryz.f50, hF]
   refine hR _ _ ?_
   exact ⟨⟨ts, hts, hmine.low (by omega)⟩, hk⟩
end Go.Vm
namespace Go.Vm
open Go Go.Proofs Go.Pa
attribute [local simp] OkG Qu QB OkD Qd Qn JS Jh Jn vop Ju JG ev evs toV Jm Fr.dsTo Fr.glTo Fr.toNone Jj Jk Jl Qj QN Jc JL Jv V.undef J5 JV Qo Qg Qh Qk Qp Qq JU J8 Qr Ql JX Qs JC JF JE Jz JM Jo JW J2 JbG JbH Jai Jbx Jeb Jec fg0 fg1 fg2 fg3 fg4 fg5 fh0 fh1 JK Qb Jp Jav Jw
theorem Jjc {l : List Fw} (hm : MayF l) {d n : Nat} (p : List S) (hn : n < l.length) (hd : l.length - n ≤ d) : ∀ m, JaA m (Qy l d n p) ≤ 1 := by
 have hz : ∀ m, m < n → JaA m (Qy l d n p) = 0 := fun m hmn => by
  unfold JaA
  rw [List.countP_eq_zero]
  intro y hy
  have := (JbP hm d n p y hy).1
  simp; omega
 intro m
 induction m using Nat.strongRecOn with
 | _ m ih =>
  by_cases h0 : m < n
  ·rw [hz m h0]; omega
  ·by_cases h1 : m < l.length
   ·by_cases h2 : m = 0
    ·subst h2
     have hn0 : n = 0 := by omega
     subst hn0
     obtain ⟨e, rfl⟩ : ∃ e, d = e + 1 := ⟨d - 1, by omega⟩
     simp only [Qy, List.getElem?_eq_getElem hn]
     rw [← List.singleton_append, JeA]
     have hz : JaA 0 ((l[0].kids.zip l[0].names).flatMap fun q => Qy l e q.1.toNat (p ++ [q.2])) = 0 := by
      unfold JaA
      rw [List.countP_eq_zero]
      intro y hy
      rw [List.mem_flatMap] at hy
      obtain ⟨q, hq, hy⟩ := hy
      have hk := hm.kid 0 hn q.1 (List.of_mem_zip hq).1
      have := (JbP hm e _ _ y hy).1
      simp; omega
     rw [hz]
     simp [JaA]
    ·rw [Jgs hm (by omega) h1 d n p hn hd]
     obtain ⟨u1, u2, _, _⟩ := Jbu hm (by omega) h1
     by_cases he : n = m
     ·subst he
      rw [if_pos rfl, hz _ u1]; omega
     ·rw [if_neg he]; have := ih _ u1; omega
   ·have : JaA m (Qy l d n p) = 0 := by
     unfold JaA
     rw [List.countP_eq_zero]
     intro y hy
     have := (JbP hm d n p y hy).2 hn
     simp; omega
    omega
theorem JfB : ∀ (N : Nat) (L : List (Nat × List S)), (∀ y ∈ L, y.1 < N) → (∀ m, JaA m L ≤ 1) → L.length ≤ N
 | 0, [], _, _ => Nat.le_refl _
 | 0, y :: L, h, _ => by have := h y (by simp); omega
 | N + 1, L, h, hc => by
  have hlen : L.length = JaA N L + (L.filter fun y => !decide (y.1 = N)).length := by
   unfold JaA
   rw [List.countP_eq_length_filter]
   have : ∀ L : List (Nat × List S), L.length = (L.filter fun y => decide (y.1 = N)).length + (L.filter fun y => !decide (y.1 = N)).length := fun L => by
    induction L with
    | nil => rfl
    | cons z L ih =>
     by_cases hz : z.1 = N
     ·rw [List.filter_cons_of_pos (by simpa using hz), List.filter_cons_of_neg (by simpa using hz), List.length_cons, List.length_cons]; omega
     ·rw [List.filter_cons_of_neg (by simpa using hz), List.filter_cons_of_pos (by simpa using hz), List.length_cons, List.length_cons]; omega
   exact this L
  have ih := JfB N (L.filter fun y => !decide (y.1 = N)) (fun y hy => by
   rw [List.mem_filter] at hy
   have := h y hy.1
   have h3 : ¬ y.1 = N := by simpa using hy.2
   omega) (fun m => Nat.le_trans (by
   unfold JaA
   rw [List.countP_filter]
   exact List.countP_mono_left fun y _ h => by
    simp only [Bool.and_eq_true] at h
    exact h.1) (hc m))
  have := hc N
  omega
theorem Joc {l : List Fw} (hm : MayF l) {d n : Nat} (p : List S) (hn : n < l.length) (hd : l.length - n ≤ d) : (Qy l d n p).length ≤ l.length :=
 JfB _ _ (fun y hy => (JbP hm d n p y hy).2 hn) (Jjc hm p hn hd)
def JoX (lo : Nat) (may : Bool) (l : List Fw) (st' : St) (v : V) : Prop := ∃ (y : V) (ts : List S), v = .tup [y, .int .i64 ((cond may 0 4 : Nat) : Int)] ∧ ts.map S.toList = cond may ((Qy l l.length 0 []).map (JcF l)) [] ∧ Mine lo 9 st' y (ts.map .str)
variable [Memo] [NY] [NZ]
theorem Jjd (gl : Gl) (x : V) (l : List Fw) (hx : Row Fw.cells x l) (hok : ∀ f ∈ l, f.ok) (hs : ∀ f ∈ l, f.small) (hl : l.length ≤ 60) (hm : MayF l) : ∀ (d n : Nat) (p : List S) (st : St) (y : V), n < l.length → p.length ≤ n → (∀ s ∈ p, s.n ≤ 300) → l.length - n ≤ d → Vw st y p →
  Says Tryz.prog gl 50 [x, .int .i64 (n : Int), y] st fun v st' => (∃ ts : List S, ts.map S.toList = (Qy l d n p).map (JcF l) ∧ Mine st.ctr 9 st' v (ts.map .str)) ∧ Keep st st'
 | 0, n, p, st, y, hn, _, _, hd, _ => by omega
 | d + 1, n, p, st, y, hn, hp, hps, hd, hy =>
  Jkf gl x l hx hok hs hl hm d n p hn hp hps hd (fun k q hk hkd => Nat.le_trans (Joc hm q hk hkd) hl) (fun j hj hj' st y hy => by
   obtain ⟨_, h1, h2, e⟩ := Jez hm hn (List.getElem_mem hj)
   have hk := hm.kid n hn _ (List.getElem_mem hj)
   have := Jjd gl x l hx hok hs hl hm d l[n].kids[j].toNat (p ++ [l[n].names[j]]) st y h2 (by simp; omega) (Jja (hs _ (List.getElem_mem hn)) hps hj') (by omega) hy
   rwa [e] at this) st y hy
set_option maxRecDepth 100000 in
theorem JpU (gl : Gl) (st : St) (x : V) (l : List Fw) (hx : Row Fw.cells x l) (hok : ∀ f ∈ l, f.ok) (hs : ∀ f ∈ l, f.small) (hl : l.length ≤ 60) :
  Says Tryz.prog gl 30 [x] st (fun v st' => JoX st.ctr (Jig l) l st' v ∧ Keep st st') := by
 refine Qa (NY.no _ rfl rfl rfl _ _) Tryz.func30 rfl (by kernel_rfl) fun R hR K gr gn => ?_
 generalize hfr : Jy gl [x] = fr
 have hF : Fs gl [(0, x)] fr := by subst hfr; simp [Fs]
 simp only [Fs] at hF
 clear hfr
 obtain ⟨v, s1, hc, rfl, hk1⟩ := Says.use (Jgj gl st x l hx hok hs hl)
 have hm := Jgk (l := l)
 generalize Jig l = M at hc hm hR
 refine Ks_ (Ka_ (gs := [none, none]) fun K1 gK => ?_)
 simp (disch := omega) []
 refine gK _ _ (Ks_ (Ks_ (Ka_ (gs := [none, none, none]) fun K1 gK => ?_)))
 simp (disch := omega) [hF, hc]
 refine gK _ _ ?_
 cases M with
 | true =>
  refine Kf_ (by simp (disch := omega) []) ?_
  have hmf := hm.1 rfl
  obtain ⟨v, s2, hcl, ⟨ts, hts, hmine⟩, hk2⟩ := Says.use (Jjd gl x l hx hok hs hl hmf l.length 0 [] s1 .nils hmf.pos (Nat.le_refl _) (by simp) (by omega) .nils)
  have hcl : JaC Tryz.prog (ihCall (W Tryz.prog)) gl 50 [x, .int .i64 0, .nils] s1 = .val v s2 := hcl
  refine Kk_ (Ks_ (Ka_ (gs := [none, none, none, none]) fun K1 gK => ?_))
  simp (disch := omega) [hF, hcl]
  refine gK _ _ (Kq_ (gr _ _ ?_))
  simp [Jx, Tryz.f30, hF]
  refine hR _ _ ?_
  exact ⟨⟨v, ts, rfl, hts, hmine.low hk1.ctr⟩, hk1.trans hk2⟩
 | false =>
  refine Kt_ (by simp (disch := omega) []) (Ks_ (Ka_ (gs := [none, none]) fun K1 gK => ?_))
  simp (disch := omega) []
  refine gK _ _ (Kq_ (gr _ _ ?_))
  simp [Jx, Tryz.f30, hF]
  refine hR _ _ ?_
  exact ⟨⟨.nils, [], rfl, rfl, .nils⟩, hk1⟩
end Go.Vm
namespace Go.Vm
open Go Go.Proofs Go.Pa
attribute [local simp] OkG Qu QB OkD Qd Qn JS Jh Jn vop Ju JG ev evs toV Jm Fr.dsTo Fr.glTo Fr.toNone Jj Jk Jl Qj QN Jc JL Jv V.undef J5 JV Qo Qg Qh Qk Qp Qq JU J8 Qr Ql JX Qs JC JF JE Jz JM Jo JW J2 JbG JbH Jai Jbx Jeb Jec fg0 fg1 fg2 fg3 fg4 fg5 fh0 fh1 JK Qb Jp Jav Jw
def wordsV : List V := [.str (S.ofList [97, 98, 115, 101, 110, 116]), .str (S.ofList [102, 105, 108, 101]), .str (S.ofList [100, 105, 114]), .str (S.ofList [108, 105, 110, 107])]
theorem JbQ : Je Tryz.prog 83 (.cp wordsV) (.int .u8 0) = some (.cp wordsV) := by kernel_rfl
theorem JbR : Je Tryz.prog 83 (.cp wordsV) (.int .u8 1) = some (.cp (wordsV.drop 1)) := by kernel_rfl
theorem JbS : Je Tryz.prog 83 (.cp wordsV) (.int .u8 2) = some (.cp (wordsV.drop 2)) := by kernel_rfl
theorem JbT : Je Tryz.prog 83 (.cp wordsV) (.int .u8 3) = some (.cp (wordsV.drop 3)) := by kernel_rfl
section
variable (st : St)
theorem JbU : JB Tryz.prog st 9 (.cp wordsV) = some (.str (S.ofList [97, 98, 115, 101, 110, 116])) := by simp only [JB, QS, a9, z9]; rfl
theorem JbV : JB Tryz.prog st 9 (.cp (wordsV.drop 1)) = some (.str (S.ofList [102, 105, 108, 101])) := by simp only [JB, QS, a9, z9]; rfl
theorem JbW : JB Tryz.prog st 9 (.cp (wordsV.drop 2)) = some (.str (S.ofList [100, 105, 114])) := by simp only [JB, QS, a9, z9]; rfl
theorem JbX : JB Tryz.prog st 9 (.cp (wordsV.drop 3)) = some (.str (S.ofList [108, 105, 110, 107])) := by simp only [JB, QS, a9, z9]; rfl
end
theorem Jje {kk : Bool} {a b : List UInt8} (h : a.length + b.length < 1000) : Jd Tryz.prog kk .add 9 (.str (S.ofList a)) (.str (S.ofList b)) = some (.str ((S.ofList a).app (S.ofList b))) := JA (by rw [Jf, Jf]; omega)
variable [Memo] [NY] [NZ]
set_option maxRecDepth 100000 in
theorem Jpe (gl : Gl) (hw : gl.get 2 = some wordsV) (st : St) (f : Fw) (hok : f.ok) (hs : f.small) (hone : Ja8 f = true) :
  Says Tryz.prog gl 46 [.agg f.cells] st (fun v st' => (∃ t : S, v = .str t ∧ t.toList = JcE f) ∧ Keep st st') := by
 refine Qa (NY.no _ rfl rfl rfl _ _) Tryz.func46 rfl (by kernel_rfl) fun R hR K gr gn => ?_
 generalize hfr : Jy gl [.agg f.cells] = fr
 have hF : Fs gl [(0, .agg f.cells)] fr := by subst hfr; simp [Fs]
 simp only [Fs] at hF
 clear hfr
 have ho := Fw.ones hok
 have hk1 := JaF st f
 have b1 := Ja2 st f
 have hnf : ({ ctr := st.ctr + 1, box := st.box.put st.ctr (.cells f.cells 47 true (some 0)) } : St) = Q9 st f := rfl
 generalize Q9 st f = q1 at hk1 b1 hnf
 have l0 := Jb (P := Tryz.prog) (off := 0) a4 z4 b1 rfl
 have l1 := Jb (P := Tryz.prog) (off := 1) a5 z5 b1 rfl
 have l4 := Jb (P := Tryz.prog) (off := 4) a3 z3 b1 rfl
 have l5 := Jb (P := Tryz.prog) (off := 5) a3 z3 b1 rfl
 obtain ⟨hk3, hkn0, hnd, hyd⟩ := Jfd hone
 obtain ⟨kn, hkn⟩ : ∃ b, f.known = b := ⟨_, rfl⟩
 have hre : ∀ kk c, Jd Tryz.prog kk .eql 3 (.int .i64 f.rest) (.int .i64 c) = some (.bool (decide (f.rest = c))) := fun kk c => Qc
 refine Ks_ (Ka_ (gs := [none, none]) fun K1 gK => ?_)
 simp (disch := omega) [hF, ho, hnf]
 refine gK _ _ (Ks_ ?_)
 refine Kb_ fun K1 gn1 gx1 go1 => ?_
 have gr1 := fun fr st h => go1 AE.ret fr st trivial (gr fr st h)
 refine Ks_ (Ka_ (gs := [none, none, none, none]) fun K1 gK => ?_)
 simp (disch := omega) [l0, hkn]
 refine gK _ _ ?_
 cases kn with
 | true =>
  refine Kf_ (by simp (disch := omega) []) (Ks_ (Ka_ (gs := [none, none, none, none]) fun K1 gK => ?_))
  simp (disch := omega) [l4, hre]
  refine gK _ _ ?_
  have hkd : f.rest ≠ 0 → f.kind = 2 := fun h => by
   cases hd : Jbn f with
   | true =>
    unfold Jbn at hd
    rw [hkn] at hd
    simpa using hd
   | false => exact absurd (hnd hd).2.1 h
  by_cases hr1 : f.rest = 1
  ·
   refine Kt_ (by simp (disch := omega) [hr1]) ?_
   have h2 : f.kind = 2 := hkd (by omega)
   have ad := fun kk => Jje (kk := kk) (a := [100, 105, 114]) (b := [32, 119, 104, 111, 108, 101]) (by simp)
   refine Ks_ (Ka_ (gs := [none, none, none, none, none, none]) fun K1 gK => ?_)
   simp (disch := omega) [hF, l1, hw, JbS, JbW, hr1, h2, ad]
   refine gK _ _ (Kq_ (gr1 _ _ ?_))
   simp [Jx, Tryz.f46, hF]
   refine hR _ _ ?_
   exact ⟨⟨_, rfl, by rw [S.toList_app, S.toList_ofList, S.toList_ofList]; simp [JcE, hkn, h2, hr1]⟩, hk1⟩
  ·
   refine Kf_ (by simp (disch := omega) [hr1]) (Ks_ (Ka_ (gs := [none, none, none, none]) fun K1 gK => ?_))
   simp (disch := omega) [l4, hre, hr1]
   refine gK _ _ ?_
   by_cases hr2 : f.rest = 2
   ·
    refine Kt_ (by simp (disch := omega) [hr2]) ?_
    have h2 : f.kind = 2 := hkd (by omega)
    have hbe : 0 ≤ f.beside ∧ f.beside ≤ 60 := by
     have := hs.names
     have hd : Jbn f = true := by unfold Jbn; rw [hkn, h2]; rfl
     rcases hyd hd with h | h
     ·omega
     ·omega
    obtain ⟨nb, hnb⟩ := Int.eq_ofNat_of_zero_le hbe.1
    obtain ⟨v, q4, hcd, ⟨dt, rfl, hdt⟩, hq4⟩ := Says.use (Jld gl { ctr := q1.ctr + 10, box := q1.box } nb (by omega))
    rw [show q4 = { ctr := q1.ctr + 10, box := q1.box } from hq4] at hcd
    have ad := fun kk => Jje (kk := kk) (a := [100, 105, 114]) (b := [32, 109, 111, 114, 101, 32]) (by simp)
    have hdn : dt.n ≤ 100 := by
     have h1 := congrArg List.length hdt
     rw [S.len] at h1
     rw [h1]
     exact Jle nb (by omega)
    have a2 : ∀ kk, Jd Tryz.prog kk .add 9 (.str ((S.ofList [100, 105, 114]).app (S.ofList [32, 109, 111, 114, 101, 32]))) (.str dt) = some (.str (((S.ofList [100, 105, 114]).app (S.ofList [32, 109, 111, 114, 101, 32])).app dt)) := fun kk => JA (by rw [QZ, Jf, Jf]; simp; omega)
    refine Ks_ (Kj_ (b := [0, 1, 3, 7, 15, 0, 32, 96, 255, 511]) (rs := [(5, 3), (0, 5), (8, 2)]) fun K1 gK => ?_)
    simp (disch := omega) [hF, l1, l5, hw, JbS, JbW, hr2, h2, ad, hnb, hcd, a2]
    refine gK _ _ (Kq_ (gr1 _ _ ?_))
    simp [Jx, Tryz.f46, hF]
    refine hR _ _ ?_
    exact ⟨⟨_, rfl, by rw [S.toList_app, S.toList_app, S.toList_ofList, S.toList_ofList, hdt]; simp [JcE, hkn, h2, hr2, hnb]⟩, hk1.tick 10⟩
   ·
    refine Kf_ (by simp (disch := omega) [hr2]) ?_
    by_cases k0 : f.kind = 0
    ·
     refine Kk_ (gn1 _ _ (Ks_ (Ka_ (gs := [none, none, none, none, none]) fun K1 gK => ?_)))
     simp (disch := omega) [hF, l1, hw, JbQ, JbU, hr2, k0]
     refine gK _ _ (Kq_ (gr _ _ ?_))
     simp [Jx, Tryz.f46, hF]
     refine hR _ _ ?_
     exact ⟨⟨_, rfl, by rw [S.toList_ofList]; simp [JcE, hkn, k0]⟩, hk1⟩
    ·
     by_cases k1 : f.kind = 1
     ·
      refine Kk_ (gn1 _ _ (Ks_ (Ka_ (gs := [none, none, none, none, none]) fun K1 gK => ?_)))
      simp (disch := omega) [hF, l1, hw, JbR, hr2, k1]
      refine gK _ _ (Kq_ (gr _ _ ?_))
      simp [Jx, Tryz.f46, hF]
      refine hR _ _ ?_
      exact ⟨⟨_, rfl, by rw [S.toList_ofList]; simp [JcE, hkn, k1]⟩, hk1⟩
     ·
      by_cases k2 : f.kind = 2
      ·
       refine Kk_ (gn1 _ _ (Ks_ (Ka_ (gs := [none, none, none, none, none]) fun K1 gK => ?_)))
       simp (disch := omega) [hF, l1, hw, JbS, JbW, hr2, k2]
       refine gK _ _ (Kq_ (gr _ _ ?_))
       simp [Jx, Tryz.f46, hF]
       refine hR _ _ ?_
       exact ⟨⟨_, rfl, by rw [S.toList_ofList]; simp [JcE, hkn, k2, hr1, hr2]⟩, hk1⟩
      ·
       have k3 : f.kind = 3 := by omega
       refine Kk_ (gn1 _ _ (Ks_ (Ka_ (gs := [none, none, none, none, none]) fun K1 gK => ?_)))
       simp (disch := omega) [hF, l1, hw, JbT, JbX, hr2, k3]
       refine gK _ _ (Kq_ (gr _ _ ?_))
       simp [Jx, Tryz.f46, hF]
       refine hR _ _ ?_
       exact ⟨⟨_, rfl, by rw [S.toList_ofList]; simp [JcE, hkn, k3]⟩, hk1⟩
 | false =>
  refine Kt_ (by simp (disch := omega) []) (Ks_ (Ka_ (gs := [none]) fun K1 gK => ?_))
  simp (disch := omega) []
  refine gK _ _ (Kq_ (gr1 _ _ ?_))
  simp [Jx, Tryz.f46, hF]
  refine hR _ _ ?_
  exact ⟨⟨_, rfl, by rw [S.toList_ofList]; simp [JcE, hkn]⟩, hk1⟩
end Go.Vm
namespace Go.Vm
open Go Go.Proofs Go.Pa
attribute [local simp] OkG Qu QB OkD Qd Qn JS Jh Jn vop Ju JG ev evs toV Jm Fr.dsTo Fr.glTo Fr.toNone Jj Jk Jl Qj QN Jc JL Jv V.undef J5 JV Qo Qg Qh Qk Qp Qq JU J8 Qr Ql JX Qs JC JF JE Jz JM Jo JW J2 JbG JbH Jai Jbx Jeb Jec fg0 fg1 fg2 fg3 fg4 fg5 fh0 fh1 JK Qb Jp Jav Jw
set_option maxRecDepth 100000 in
theorem i5 : ∃ i, Tryz.prog.info? 5 = some i ∧ i.size = 1 ∧ i.bytes ≤ 64 := ⟨_, rfl, by decide, by decide⟩
theorem zs5 : Q4 Tryz.prog 5 = some (.int .u8 0) := by kernel_rfl
theorem z90 : J7 Tryz.prog 61 = some 1 := by kernel_rfl
theorem a90 : QU Tryz.prog 61 = some false := by kernel_rfl
theorem z91 : J7 Tryz.prog 62 = some 1 := by kernel_rfl
theorem a91 : QU Tryz.prog 62 = some false := by kernel_rfl
theorem Jay : Q4 Tryz.prog 64 = some (.agg [.nilp, .nils]) := by kernel_rfl
theorem fb0 (id : Nat) : Jq Tryz.prog 64 (.ptr id 0) 0 = some (.ptr id 0) := by kernel_rfl
theorem fb1 (id : Nat) : Jq Tryz.prog 64 (.ptr id 0) 1 = some (.ptr id 1) := by kernel_rfl
theorem u91 : Tryz.prog.underlying 62 = some (.slice 5) := by kernel_rfl
theorem u5 : Tryz.prog.underlying 5 = some (.int .u8) := by kernel_rfl
theorem Qm (l : List UInt8) : (QE l).length = l.length := by simp [QE]
theorem Jgw (a b : List UInt8) : QE (a ++ b) = QE a ++ QE b := by simp [QE]
theorem Jgx (l : List UInt8) : (QE l).all JN = true := by simp [QE, JN]
theorem Jfe : ∀ l : List UInt8, bytesOf (QE l) = some l
 | [] => rfl
 | a :: l => by
  have ih := Jfe l
  simp only [QE, List.map_cons, bytesOf] at ih ⊢
  rw [ih]; simp
theorem JmU {st : St} {x s : V} {l m : List V} {lo : Nat} (h : Mine lo 5 st x l) (hm : Jbo st s m) (hlo : lo ≤ st.ctr) (hb : l.length + m.length ≤ 1000000000000) :
  ∃ y st', QX Tryz.prog st 62 x s = some (y, st') ∧ Low lo st st' ∧ Mine lo 5 st' y (l ++ m) ∧ (∀ i, vid y i → vid x i ∨ st.ctr ≤ i) ∧ ∀ i, i < st.ctr → ¬ vid x i → st'.box.get i = st.box.get i := by
 obtain ⟨i, hi, h1, h2⟩ := i5
 refine h.push2 u91 hi h1 zs5 rfl hm hlo ?_ (by simp [JH]; omega)
 refine Nat.le_trans (Nat.mul_le_mul hb h2) (by simp [JH])
theorem Jgy (st : St) (s : S) : Jbo st (.str s) (QE s.toList) := by
 refine ⟨?_, Jgx _⟩
 simp only [Jan, Qm, S.len]
def Bld (lo b : Nat) (st : St) (l : List UInt8) : Prop := ∃ y, st.box.get b = some (.cells [.ptr b 0, y] 64 true (some 0)) ∧ lo ≤ b ∧ b < st.ctr ∧ Mine lo 5 st y (QE l) ∧ ¬ vid y b
theorem Jpf : liesAt Tryz.prog Tryz.prog.depth 64 ([V.nilp, V.nils].length / Tryz.prog.cellsOf 64) 0 64 1 = true := by kernel_rfl
theorem u90 : Tryz.prog.underlying 61 = some (.pointer 64) := by kernel_rfl
theorem JpV : Tryz.prog.underlying 120 = some .unsafePointer := by kernel_rfl
theorem z93 : J7 Tryz.prog 64 = some 2 := by kernel_rfl
theorem JpW {st : St} {id : Nat} (hb : st.box.get id = some (.cells [.nilp, .nils] 64 true (some 0))) : JbJ Tryz.prog st 61 120 (.ptr id 0) = some (.ptr id 0) := by
 simp only [JbJ, u90, JpV, hb, z93]
 rfl
theorem JpX {st : St} {id : Nat} (hb : st.box.get id = some (.cells [.nilp, .nils] 64 true (some 0))) : JbJ Tryz.prog st 120 61 (.ptr id 0) = some (.ptr id 0) := by
 simp only [JbJ, u90, JpV, hb, z93, Jpf]
theorem JmV {id off : Nat} {kk : Bool} : Jd Tryz.prog kk .eql 61 (.ptr id off) .nilp = some (.bool false) := by simp only [Jd, u90]
theorem Jlf {kk : Bool} : Jd Tryz.prog kk .eql 61 .nilp .nilp = some (.bool true) := by cases kk <;> kernel_rfl
theorem Jgz {id : Nat} {kk : Bool} : Jd Tryz.prog kk .neq 61 (.ptr id 0) (.ptr id 0) = some (.bool false) := by
 simp only [Jd, u90, z93, Nat.beq_refl]
 rfl
theorem Jqk : Tryz.prog.underlying 94 = some (.pointer 5) := by kernel_rfl
theorem co5 : Tryz.prog.cellsOf 5 = 1 := by kernel_rfl
theorem Jql {st : St} {lo m : Nat} {y : V} {l : List UInt8} (hm : Mine lo 5 st y (QE l)) (hlm : l.length = m + 1) (hl : l.length ≤ 1000000000000) :
  ∃ id cap st', y = .ms id 0 (m + 1) 1 cap ∧ Jce Tryz.prog { ctr := st.ctr + 12, box := st.box } 94 (.ptr id 0) (.int .i64 (l.length : Int)) = some (.str (S.ofList l), st') ∧ Low lo st st' := by
 generalize hb : QE l = bl at hm
 cases hm with
 | nils =>
  have := congrArg List.length hb
  rw [Qm] at this
  have h0 : l.length = 0 := this
  omega
 | ms id n cap cs fl hlo hid hbx hn hcap =>
  have hnl : n = l.length := by
   have := congrArg List.length hb
   rw [Qm, List.length_take, Nat.min_eq_left hn] at this
   exact this.symm
  have h1 : Nat.ble (0 + l.length) cs.length = true := Nat.ble_eq_true_of_le (by omega)
  have h2 : Nat.ble l.length JH = true := Nat.ble_eq_true_of_le (by simp [JH]; omega)
  have h3 : bytesOf (sub cs 0 l.length) = some l := by
   rw [show sub cs 0 l.length = QE l from by rw [hb, hnl]; rfl]
   exact Jfe l
  refine ⟨id, cap, { ctr := st.ctr + 12, box := st.box.put id (.cells cs 5 fl (some (Nat.max 0 (0 + l.length)))) }, by rw [← hlm, ← hnl], ?_, ⟨by show st.ctr ≤ st.ctr + 12; omega, fun i hi => by show (st.box.put id _).get i = _; rw [Tr.get_put, if_neg (by omega)]⟩⟩
  have ha : JaO (.int .i64 (l.length : Int)) = some (m + 1) := by rw [← hlm]; rfl
  simp only [Jce, ha, hbx, Jqk, co5]
  rw [← hlm, h1, h2, h3]
  rfl
variable [Memo] [NY] [NZ]
omit [NZ] in
set_option maxRecDepth 100000 in
theorem Jim (gl : Gl) (st : St) (b : Nat) (y : V) (hb : st.box.get b = some (.cells [.ptr b 0, y] 64 true (some 0))) :
  Says Tryz.prog gl 64 [.ptr b 0] st (fun _v st' => Sm st st') := by
 refine Qa (NY.no _ rfl rfl rfl _ _) Tryz.func64 rfl (by kernel_rfl) fun R hR K gr gn => ?_
 generalize hfr : Jy gl [.ptr b 0] = fr
 have hF : Fs gl [(0, .ptr b 0)] fr := by subst hfr; simp [Fs]
 simp only [Fs] at hF
 clear hfr
 have l0 := Jb (P := Tryz.prog) (off := 0) a90 z90 hb rfl
 refine Ks_ (Ka_ (gs := [none, none, none, none, none]) fun K1 gK => ?_)
 simp (disch := omega) [hF, fb0, l0, JmV]
 refine gK _ _ (Kf_ (by simp (disch := omega) []) (Ks_ (Ka_ (gs := [none, none, none, none, none, none]) fun K1 gK => ?_)))
 simp (disch := omega) [hF, fb0, l0, Jgz]
 refine gK _ _ (Kf_ (by simp (disch := omega) []) (Kk_ (gn _ _ ?_)))
 simp [Jx, Tryz.f64, hF]
 refine hR _ _ ?_
 exact rfl
omit [NZ] in
set_option maxRecDepth 100000 in
theorem Jd6 (gl : Gl) (st : St) (b : Nat) (hb : st.box.get b = some (.cells [.nilp, .nils] 64 true (some 0))) :
  Says Tryz.prog gl 64 [.ptr b 0] st (fun _v st' => st' = st.put b (.cells [.ptr b 0, .nils] 64 true (some 0))) := by
 refine Qa (NY.no _ rfl rfl rfl _ _) Tryz.func64 rfl (by kernel_rfl) fun R hR K gr gn => ?_
 generalize hfr : Jy gl [.ptr b 0] = fr
 have hF : Fs gl [(0, .ptr b 0)] fr := by subst hfr; simp [Fs]
 simp only [Fs] at hF
 clear hfr
 have l0 := Jb (P := Tryz.prog) (off := 0) a90 z90 hb rfl
 have c1 := JpW hb
 have c2 := JpX hb
 have w := JaE (P := Tryz.prog) (t := 61) (off := 0) (v := .ptr b 0) z90 hb (by simp) rfl
 have hdoor : JaC Tryz.prog (ihCall (W Tryz.prog)) gl 81 [.ptr b 0] st = .val (.ptr b 0) st := by
  have hn : Extern.findNext Tryz.f81 = none := by kernel_rfl
  have hx : Jaj Tryz.prog Tryz.f81 [.ptr b 0] = none := by
   simp only [Jaj, hn]
   cases Extern.find Tryz.f81 with
   | none => rfl
   | some e => rfl
  have hd : Jh0 Tryz.prog Tryz.f81 [.ptr b 0] st = some (.ptr b 0, st) := rfl
  simp only [JaC, Tryz.func81, show (Tryz.f81.name == "runtime.NumGoroutine") = false from by kernel_rfl, show Tryz.f81.body = none from rfl, hx, hn, hd]
 refine Ks_ (Ka_ (gs := [none, none, none, none, none]) fun K1 gK => ?_)
 simp (disch := omega) [hF, fb0, l0, Jlf]
 refine gK _ _ (Kt_ (by simp (disch := omega) []) (Ka_ (gs := [none, none, none, none, none, none, none, none]) fun K1 gK => ?_))
 simp (disch := omega) [hF, fb0, c1, c2, w, hdoor]
 refine gK _ _ (gn _ _ ?_)
 simp [Jx, Tryz.f64, hF]
 refine hR _ _ ?_
 exact rfl
set_option maxRecDepth 100000 in
omit [Memo] [NY] [NZ] in
theorem Jpg [Memo] {gl : Gl} {st : St} {N : Nat} (h0 : 0 < N) (hN : N ≤ 1000000000000) : JaC Tryz.prog (ihCall (W Tryz.prog)) gl 96 [.int .i64 (N : Int)] st = .val (.ms st.ctr 0 N 1 none) { ctr := st.ctr + 1, box := st.box.put st.ctr (.cells [] 5 false (some 0)) } := by
 obtain ⟨n, rfl⟩ : ∃ n, N = n + 1 := ⟨N - 1, by omega⟩
 have hn : Extern.findNext Tryz.f96 = none := by kernel_rfl
 have hx : Jaj Tryz.prog Tryz.f96 [.int .i64 ((n + 1 : Nat) : Int)] = none := by
  have hf := JfK Tryz.f96 (by kernel_rfl)
  have hu : Q0 Tryz.prog (Extern.BytealgMakeNoZero.makeNoZero Tryz.f96.params #[62] #[.int .i64 ((n + 1 : Nat) : Int)]) = none := by
   have hc : (decide (((n + 1 : Nat) : Int) < 0) || decide (((n + 1 : Nat) : Int) > 2 ^ 48)) = false := by
    rw [decide_eq_false (by omega), decide_eq_false (by omega)]; rfl
   have hdef : Extern.BytealgMakeNoZero.makeNoZero Tryz.f96.params #[62] #[.int .i64 ((n + 1 : Nat) : Int)] = (do
     let .slice elem ← underlying 62 | stuck "bytealg.MakeNoZero: slice type expected"
     if ((n + 1 : Nat) : Int) < 0 || ((n + 1 : Nat) : Int) > 2 ^ 48 then runtimePanic (.error "makeslice: len out of range")
     let cap ← choose (.appendCap ((n + 1 : Nat) : Int).toNat 0 elem)
     askRoom cap
     let bytes ← choose (.extern "internal/bytealg.MakeNoZero.bytes" 0)
     let a ← newRow elem (Extern.BytealgMakeNoZero.digits cap bytes #[])
     pure (.slice (some a) ((n + 1 : Nat) : Int).toNat cap)) := rfl
   rw [hdef, JaR, Jak u91]
   simp only [Option.bind_some, hc, Bool.false_eq_true, if_false]
   rfl
  rw [show Jaj Tryz.prog Tryz.f96 [.int .i64 ((n + 1 : Nat) : Int)] = QY Tryz.prog (fun l => Extern.BytealgMakeNoZero.makeNoZero Tryz.f96.params Tryz.f96.resultTypes l.toArray) [.int .i64 ((n + 1 : Nat) : Int)] from by simp only [Jaj, hn, hf]]
  rw [show Tryz.f96.resultTypes = #[62] from by kernel_rfl]
  simp only [QY, Jc, ofV]
  show (match Q0 Tryz.prog (Extern.BytealgMakeNoZero.makeNoZero Tryz.f96.params #[62] #[.int .i64 ((n + 1 : Nat) : Int)]) with
   | some v => toV 6 v
   | none => none) = none
  rw [hu]
 have hb : Nat.ble (n + 1) JH = true := Nat.ble_eq_true_of_le (by simp [JH]; omega)
 have hd : Jh0 Tryz.prog Tryz.f96 [.int .i64 ((n + 1 : Nat) : Int)] st = some (.ms st.ctr 0 (n + 1) 1 none, { ctr := st.ctr + 1, box := st.box.put st.ctr (.cells [] 5 false (some 0)) }) := by
  show (match Tryz.f96.resultTypes.toList, Nat.ble (n + 1) JH with
   | [t], true => (match Tryz.prog.underlying t with
    | some (.slice e) => some (V.ms st.ctr 0 (n + 1) 1 none, ({ ctr := st.ctr + 1, box := st.box.put st.ctr (.cells [] e false (some 0)) } : St))
    | _ => none)
   | _, _ => none) = _
  rw [hb, show Tryz.f96.resultTypes.toList = [62] from by kernel_rfl]
  simp only [u91]
 simp only [JaC, Tryz.func96, show (Tryz.f96.name == "runtime.NumGoroutine") = false from by kernel_rfl, show Tryz.f96.body = none from rfl, hx, hn, hd]
omit [NZ] in
set_option maxRecDepth 100000 in
theorem Jod (gl : Gl) (st : St) (b N : Nat) (h0 : 0 < N) (hN : N ≤ 1000000000000) (hbc : b < st.ctr) (hb : st.box.get b = some (.cells [.ptr b 0, .nils] 64 true (some 0))) :
  Says Tryz.prog gl 82 [.ptr b 0, .int .i64 (N : Int)] st (fun _v st' => Bld b b st' [] ∧ st.ctr ≤ st'.ctr ∧ ∀ i, i < st.ctr → i ≠ b → st'.box.get i = st.box.get i) := by
 refine Qa (NY.no _ rfl rfl rfl _ _) Tryz.func82 rfl (by kernel_rfl) fun R hR K gr gn => ?_
 generalize hfr : Jy gl [.ptr b 0, .int .i64 (N : Int)] = fr
 have hF : Fs gl [(0, .ptr b 0), (1, .int .i64 (N : Int))] fr := by subst hfr; simp [Fs]
 simp only [Fs] at hF
 clear hfr
 have l1 := Jb (P := Tryz.prog) (off := 1) a91 z91 hb rfl
 have hmul : ∀ kk, Jd Tryz.prog kk .mul 3 (.int .i64 2) (.int .i64 0) = some (.int .i64 0) := fun kk => by cases kk <;> kernel_rfl
 have hd := Jpg (gl := gl) (st := { ctr := st.ctr + 16, box := st.box }) h0 hN
 obtain ⟨q1, hq1⟩ : ∃ s : St, s = { ctr := st.ctr + 16 + 1, box := st.box.put (st.ctr + 16) (.cells [] 5 false (some 0)) } := ⟨_, rfl⟩
 have k1 : Keep st q1 := by rw [hq1]; exact ((Keep.refl st).tick 16).new _
 have c1 : q1.ctr = st.ctr + 17 := by rw [hq1]
 have g1 : q1.box.get (st.ctr + 16) = some (.cells [] 5 false (some 0)) := by rw [hq1]; simp [Tr.get_put]
 have hb1 := (k1.box b hbc).trans hb
 have l2 := Jb (P := Tryz.prog) (off := 1) a91 z91 hb1 rfl
 have hsl : Jac Tryz.prog 62 (.ms (st.ctr + 16) 0 N 1 none) none (some (.int .i64 0)) = some (.ms (st.ctr + 16) 0 0 1 none) := by
  simp only [Jac, u91, J4, z5, show JaO (.int .i64 0) = some 0 from rfl]
  simp [JdI, Jel, Nat.ble]
 have hq1' := hq1.symm
 have w := JaE (P := Tryz.prog) (st := q1) (t := 62) (off := 1) (v := .ms (st.ctr + 16) 0 0 1 none) z91 hb1 (by simp) rfl
 have hcp : JeR Tryz.prog q1 62 (.ms (st.ctr + 16) 0 0 1 none) .nils = some (.int .i64 0, q1) := by
  simp only [JeR, u91, z5, Jan, J6]
 have u91' := u91
 refine Ks_ (Ki_ (b := [0, 1, 3, 7, 15, 31, 0, 127, 255, 0, 512, 1536, 3584, 7680, 16383, 32767]) fun K1 gK => ?_)
 simp (disch := omega) [hF, fb1, l1, hmul, hd, l2, hsl, hq1', u91', Q2]
 refine gK _ _ (Ks_ (Ka_ (gs := [none, none, none, none, none, none]) fun K1 gK => ?_))
 simp (disch := omega) [hF, fb1, l2, hcp]
 refine gK _ _ (Ka_ (gs := [none, none, none, none, none]) fun K1 gK => ?_)
 simp (disch := omega) [hF, fb1, w]
 refine gK _ _ (gn _ _ ?_)
 simp [Jx, Tryz.f82, hF]
 refine hR _ _ ?_
 have hbb : (q1.put b (.cells [.ptr b 0, .ms (st.ctr + 16) 0 0 1 none] 64 true (some 0))).box.get b = some (.cells [.ptr b 0, .ms (st.ctr + 16) 0 0 1 none] 64 true (some 0)) := by rw [Ji, if_pos rfl]
 refine ⟨⟨.ms (st.ctr + 16) 0 0 1 none, hbb, Nat.le_refl _, by show b < q1.ctr; omega, ?_, by show ¬ b = st.ctr + 16; omega⟩, by show st.ctr ≤ q1.ctr; omega, fun i hi hib => ?_⟩
 ·have := Mine.ms (lo := b) (e := 5) (st := q1.put b (.cells [.ptr b 0, .ms (st.ctr + 16) 0 0 1 none] 64 true (some 0))) (st.ctr + 16) 0 none [] false (by omega) (by rw [JI]; omega) (by rw [Ji, if_neg (by omega)]; exact g1) (Nat.le_refl _) (fun c hc => by cases hc)
  exact this
 ·show (q1.put b _).box.get i = _
  rw [Ji, if_neg hib]; exact k1.box i hi
omit [NZ] in
set_option maxRecDepth 100000 in
theorem Jjf (gl : Gl) (st : St) (b N : Nat) (h0 : 0 < N) (hN : N ≤ 1000000000000) (hbc : b < st.ctr) (hb : st.box.get b = some (.cells [.nilp, .nils] 64 true (some 0))) :
  Says Tryz.prog gl 65 [.ptr b 0, .int .i64 (N : Int)] st (fun _v st' => Bld b b st' [] ∧ st.ctr ≤ st'.ctr ∧ ∀ i, i < st.ctr → i ≠ b → st'.box.get i = st.box.get i) := by
 refine Qa (NY.no _ rfl rfl rfl _ _) Tryz.func65 rfl (by kernel_rfl) fun R hR K gr gn => ?_
 generalize hfr : Jy gl [.ptr b 0, .int .i64 (N : Int)] = fr
 have hF : Fs gl [(0, .ptr b 0), (1, .int .i64 (N : Int))] fr := by subst hfr; simp [Fs]
 simp only [Fs] at hF
 clear hfr
 obtain ⟨v, q1, hcc, hq1⟩ := Says.use (Jd6 gl st b hb)
 have c1 : q1.ctr = st.ctr := by rw [hq1, JI]
 have hb1 : q1.box.get b = some (.cells [.ptr b 0, .nils] 64 true (some 0)) := by rw [hq1, Ji, if_pos rfl]
 have ho1 : ∀ i, i ≠ b → q1.box.get i = st.box.get i := fun i hi => by rw [hq1, Ji, if_neg hi]
 clear hq1
 have l1 := Jb (P := Tryz.prog) (off := 1) a91 z91 hb1 rfl
 obtain ⟨v2, q2, hg, hbl, hc2, ho2⟩ := Says.use (Jod gl { ctr := q1.ctr + 13, box := q1.box } b N h0 hN (by show b < q1.ctr + 13; omega) hb1)
 have u91' := u91
 refine Ks_ (Ka_ (gs := [none, none]) fun K1 gK => ?_)
 simp (disch := omega) [hF, hcc]
 refine gK _ _ (Ks_ (Ks_ (Ka_ (gs := [none, none]) fun K1 gK => ?_)))
 simp (disch := omega) [hF]
 refine gK _ _ (Kf_ (by simp (disch := omega) []) (Kk_ (Ks_ (Ki_ (b := [0, 1, 3, 7, 15, 0, 32, 96, 224, 480, 1023, 0, 4095]) fun K1 gK => ?_))))
 simp (disch := omega) [hF, fb1, l1, u91', Q2]
 refine gK _ _ (Kt_ (by simp (disch := omega) [h0]) (Ka_ (gs := [none, none, none]) fun K1 gK => ?_))
 simp (disch := omega) [hF, hg, h0]
 refine gK _ _ (gn _ _ ?_)
 simp [Jx, Tryz.f65, hF]
 refine hR _ _ ?_
 exact ⟨hbl, by have : q1.ctr + 13 ≤ q2.ctr := hc2; omega, fun i hi hib => by rw [ho2 i (by show i < q1.ctr + 13; omega) hib]; exact ho1 i hib⟩
omit [NZ] in
set_option maxRecDepth 100000 in
theorem Jb6 (gl : Gl) (st : St) (lo b : Nat) (l : List UInt8) (s : S) (hb : Bld lo b st l) (hl : l.length + s.n ≤ 1000000000000) :
  Says Tryz.prog gl 38 [.ptr b 0, .str s] st (fun _v st' => Bld lo b st' (l ++ s.toList) ∧ Low lo st st') := by
 refine Qa (NY.no _ rfl rfl rfl _ _) Tryz.func38 rfl (by kernel_rfl) fun R hR K gr gn => ?_
 generalize hfr : Jy gl [.ptr b 0, .str s] = fr
 have hF : Fs gl [(0, .ptr b 0), (1, .str s)] fr := by subst hfr; simp [Fs]
 simp only [Fs] at hF
 clear hfr
 obtain ⟨y, b1, hlo, hbc, hm, hv⟩ := hb
 obtain ⟨v, q1, hcc, hq1⟩ := Says.use (Jim gl st b y b1)
 rw [show q1 = st from hq1] at hcc
 clear hq1
 have l1 := Jb (P := Tryz.prog) (off := 1) a91 z91 b1 rfl
 obtain ⟨z, q2, ha, hl2, hm2, hv2, ho2⟩ := JmU hm (Jgy st s) (by omega) (by rw [Qm, Qm, S.len]; exact hl)
 have b2 := (ho2 b hbc hv).trans b1
 have hvz : ¬ vid z b := fun h => by
  rcases hv2 b h with h | h
  ·exact hv h
  ·omega
 have w := JaE (P := Tryz.prog) (st := q2) (t := 62) (off := 1) (v := z) z91 b2 (by simp) hm2.sim
 have ls := QT Tryz.underlying9 (s := s)
 refine Ks_ (Ka_ (gs := [none, none]) fun K1 gK => ?_)
 simp (disch := omega) []
 refine gK _ _ (Ks_ (Ka_ (gs := [none, none]) fun K1 gK => ?_))
 simp (disch := omega) [hF, hcc]
 refine gK _ _ (Ks_ (Ka_ (gs := [none, none, none, none, none, none, none, none, none, none]) fun K1 gK => ?_))
 simp (disch := omega) [hF, fb1, l1, ha, w, Tryz.underlying9]
 refine gK _ _ (Ks_ (Ka_ (gs := [none, none, none, none]) fun K1 gK => ?_))
 simp (disch := omega) [hF, ls]
 refine gK _ _ (Kq_ (gr _ _ ?_))
 simp [Jx, Tryz.f38, hF]
 refine hR _ _ ?_
 have hbb : (q2.put b (.cells [.ptr b 0, z] 64 true (some 0))).box.get b = some (.cells [.ptr b 0, z] 64 true (some 0)) := by rw [Ji, if_pos rfl]
 refine ⟨⟨z, hbb, hlo, by have := hl2.ctr; show b < q2.ctr; omega, ?_, hvz⟩, ⟨hl2.ctr, fun i hi => ?_⟩⟩
 ·rw [Jgw]
  exact hm2.stab (Nat.le_refl _) fun i hi => by
   show (q2.put b _).box.get i = _
   rw [Ji, if_neg (by rintro rfl; exact hvz hi)]
 ·show (q2.put b _).box.get i = _
  rw [Ji, if_neg (by omega)]; exact hl2.box i hi
omit [NZ] in
set_option maxRecDepth 100000 in
theorem Jff (gl : Gl) (st : St) (lo b : Nat) (l : List UInt8) (hb : Bld lo b st l) (hl : l.length ≤ 1000000000000) (hne : l ≠ []) :
  Says Tryz.prog gl 40 [.ptr b 0] st (fun v st' => (∃ t : S, v = .str t ∧ t.toList = l) ∧ Low lo st st') := by
 refine Qa (NY.no _ rfl rfl rfl _ _) Tryz.func40 rfl (by kernel_rfl) fun R hR K gr gn => ?_
 generalize hfr : Jy gl [.ptr b 0] = fr
 have hF : Fs gl [(0, .ptr b 0)] fr := by subst hfr; simp [Fs]
 simp only [Fs] at hF
 clear hfr
 obtain ⟨y, b1, hlo, hbc, hm, hv⟩ := hb
 have l1 := Jb (P := Tryz.prog) (off := 1) a91 z91 b1 rfl
 have ly := hm.len u91
 rw [Qm] at ly
 obtain ⟨m, hlm⟩ : ∃ m, l.length = m + 1 := ⟨l.length - 1, by have := List.length_pos_iff.2 hne; omega⟩
 obtain ⟨id, cap, q1, rfl, hu, hlow⟩ := Jql hm hlm hl
 have vq : veq 1000000000 (.ms id 0 (m + 1) 1 cap) (.ms id 0 (m + 1) 1 cap) = true := Qi _ (Nat.le_of_ble_eq_true rfl)
 refine Ks_ (Ka_ (gs := [none]) fun K1 gK => ?_)
 simp (disch := omega) []
 refine gK _ _ (Ks_ (Ki_ (b := [0, 1, 3, 7, 15, 0, 32, 96, 224, 480, 1023, 2047]) fun K1 gK => ?_))
 simp (disch := omega) [hF, fb1, l1, ly, vq, hu]
 refine gK _ _ (Kq_ (gr _ _ ?_))
 simp [Jx, Tryz.f40, hF]
 refine hR _ _ ?_
 exact ⟨⟨_, rfl, S.toList_ofList l⟩, hlow⟩
end Go.Vm
namespace Go.Vm
open Go Go.Proofs Go.Pa
attribute [local simp] OkG Qu QB OkD Qd Qn JS Jh Jn vop Ju JG ev evs toV Jm Fr.dsTo Fr.glTo Fr.toNone Jj Jk Jl Qj QN Jc JL Jv V.undef J5 JV Qo Qg Qh Qk Qp Qq JU J8 Qr Ql JX Qs JC JF JE Jz JM Jo JW J2 JbG JbH Jai Jbx Jeb Jec fg0 fg1 fg2 fg3 fg4 fg5 fh0 fh1 JK Qb Jp Jav Jw
def Jby (c : UInt8) : List S → List UInt8
 | [] => []
 | s :: p => s.toList ++ p.flatMap fun s => c :: s.toList
theorem JlX {p : List S} (h : ¬ p = []) : Jck p = 47 :: Jby 47 p := by
 cases p with
 | nil => exact absurd rfl h
 | cons a b => rfl
theorem Jqm {st : St} {x : V} {l : List S} (hx : Vw st x l) (h : 1 ≤ l.length) : ∃ y, Jac Tryz.prog 23 x (some (.int .i64 1)) none = some y ∧ Vw st y (l.drop 1) := hx.tail (k := .i64) Tryz.underlying23 z9 h
theorem Jph {n : Int} (h : 1 ≤ n) (h2 : n ≤ 1000) : ∃ q : Int, (∀ kk, Jd Tryz.prog kk .quo 3 (.int .i64 9223372036854775807) (.int .i64 n) = some (.int .i64 q)) ∧ 1 < q := by
 have e : (9223372036854775807 : Int).tdiv n = 9223372036854775807 / n := Int.tdiv_eq_ediv_of_nonneg (by decide)
 have h3 : 2 ≤ (9223372036854775807 : Int) / n := Int.le_ediv_of_mul_le (by omega) (by omega)
 have h4 : (9223372036854775807 : Int) / n ≤ 9223372036854775807 := Int.ediv_le_self _ (by decide)
 refine ⟨9223372036854775807 / n, fun kk => ?_, by omega⟩
 rw [Ji1 (by omega), e, Jo (by omega) (by omega)]
def Jhh (l : List S) : Nat := (l.map S.n).sum
theorem JlY {p : List S} {i : Nat} (h : i < p.length) : Jhh (p.take (i + 1)) = Jhh (p.take i) + p[i].n := by
 unfold Jhh
 rw [List.take_add_one, List.getElem?_eq_getElem h, List.map_append, List.sum_append]; simp
theorem Jin : ∀ (p : List S), (∀ s ∈ p, s.n ≤ 1000000) → Jhh p ≤ 1000000 * p.length
 | [], _ => Nat.le_refl _
 | s :: p, h => by
  have := Jin p fun t ht => h t (by simp [ht])
  have := h s (by simp)
  unfold Jhh at *
  simp only [List.map_cons, List.sum_cons, List.length_cons]; omega
theorem JmW {p : List S} (hp : p.length ≤ 250) (hs : ∀ s ∈ p, s.n ≤ 300) : (Jby 47 p).length ≤ 76000 := by
 cases p with
 | nil => simp [Jby]
 | cons a r =>
  have h1 := Jdx r fun s hm => hs s (by simp [hm])
  have h2 := hs a (by simp)
  simp only [Jby, List.length_append, S.len]
  simp only [List.length_cons] at hp
  omega
theorem JlZ {c : UInt8} {p : List S} (hp : p.length ≤ 1000) (hs : ∀ s ∈ p, s.n ≤ 1000000) : (Jby c p).length ≤ 1001001000 := by
 cases p with
 | nil => simp [Jby]
 | cons a r =>
  have h1 := JdP c r fun s hm => hs s (by simp [hm])
  have h2 := hs a (by simp)
  simp only [Jby, List.length_append, S.len]
  simp only [List.length_cons] at hp
  omega
theorem Joe {c : UInt8} {p : List S} (h : 2 ≤ p.length) : Jby c p ≠ [] := by
 match p, h with
 | a :: b :: r, _ => simp [Jby]
theorem Jof {c : UInt8} {p : List S} (h : 0 < p.length) : p[0].toList ++ ((p.drop 1).flatMap fun s => c :: s.toList) = Jby c p := by
 cases p with
 | nil => simp at h
 | cons a r => rfl
theorem JaS {c : UInt8} : Q2 Tryz.prog 9 (.str (S.ofList [c])) = some (.int .i64 1) := by simp only [Q2, Tryz.underlying9]; rfl
variable [Memo] [NY] [NZ]
omit [NZ] in
set_option maxRecDepth 100000 in
theorem Jlg (gl : Gl) (c : UInt8) (st : St) (x : V) (p : List S) (hx : Vw st x p) (hp : p.length ≤ 1000) (hs : ∀ s ∈ p, s.n ≤ 1000000) :
  Says Tryz.prog gl 39 [x, .str (S.ofList [c])] st (fun v st' => (∃ t : S, v = .str t ∧ t.toList = Jby c p) ∧ Keep st st') := by
 refine Qa (NY.no _ rfl rfl rfl _ _) Tryz.func39 rfl (by kernel_rfl) fun R hR K gr gn => ?_
 generalize hfr : Jy gl [x, .str (S.ofList [c])] = fr
 have hF : Fs gl [(0, x), (1, .str (S.ofList [c]))] fr := by subst hfr; simp [Fs]
 simp only [Fs] at hF
 clear hfr
 have lx := hx.len Tryz.underlying23
 refine Ks_ (Ka_ (gs := [none]) fun K1 gK => ?_)
 simp (disch := omega) []
 refine gK _ _ (Ks_ (Ks_ (Ka_ (gs := [none, none]) fun K1 gK => ?_)))
 simp (disch := omega) [hF, lx]
 refine gK _ _ ?_
 refine Kb_ fun K1 gn1 gx1 go1 => ?_
 have gr1 := fun fr st h => go1 AE.ret fr st trivial (gr fr st h)
 refine Ks_ (Ka_ (gs := [none, none]) fun K1 gK => ?_)
 simp (disch := omega) []
 refine gK _ _ ?_
 by_cases h0 : p = []
 ·
  refine Kt_ (by simp (disch := omega) [h0]) (Ks_ (Ka_ (gs := [none]) fun K1 gK => ?_))
  simp (disch := omega) [h0]
  refine gK _ _ (Kq_ (gr1 _ _ ?_))
  simp [Jx, Tryz.f39, hF]
  refine hR _ _ ?_
  exact ⟨⟨⟨0, 0⟩, by rfl, by rw [h0]; rfl⟩, .refl _⟩
 ·
  refine Kf_ (by simp (disch := omega) [h0]) (Ks_ (Ka_ (gs := [none, none]) fun K1 gK => ?_))
  simp (disch := omega) [h0]
  refine gK _ _ ?_
  by_cases h1 : p.length = 1
  ·
   refine Kt_ (by simp (disch := omega) [h1]) ?_
   have hxi := hx.ix Tryz.underlying23 z9 (k := .i64) (a := 0) (by omega) (by omega)
   have hxd := hx.ld z9 a9 (show 0 < p.length by omega)
   refine Ks_ (Ka_ (gs := [none, none, none, none]) fun K1 gK => ?_)
   simp (disch := omega) [hF, h1, hxi, hxd]
   refine gK _ _ (Kq_ (gr1 _ _ ?_))
   simp [Jx, Tryz.f39, hF]
   refine hR _ _ ?_
   exact ⟨⟨p[0], rfl, by (match p, h1 with | [a], _ => simp [Jby])⟩, .refl _⟩
  ·
   refine Kf_ (by simp (disch := omega) [h1]) ?_
   have h2 : 2 ≤ p.length := by (have : p.length ≠ 0 := fun h => h0 (List.length_eq_zero_iff.1 h)); omega
   obtain ⟨L, hL⟩ : ∃ L : Nat, p.length = L + 1 := ⟨p.length - 1, by omega⟩
   have hL' : (p.length : Int) - 1 = (L : Int) := by omega
   obtain ⟨q, hq, hq1⟩ := Jph (n := (L : Int)) (by omega) (by omega)
   have hge : ∀ kk, Jd Tryz.prog kk .geq 3 (.int .i64 1) (.int .i64 q) = some (.bool false) := fun kk => by rw [JP, decide_eq_false (by omega)]
   have hmul : ∀ kk, Jd Tryz.prog kk .mul 3 (.int .i64 1) (.int .i64 (L : Int)) = some (.int .i64 (L : Int)) := fun kk => by rw [Qt, Int.one_mul, Jo (by omega) (by omega)]
   refine Kk_ (gn1 _ _ (Ks_ (Ka_ (gs := [none]) fun K1 gK => ?_)))
   simp (disch := omega) [h1]
   refine gK _ _ (Ks_ (Ks_ (Ka_ (gs := [none, none, none]) fun K1 gK => ?_)))
   simp (disch := omega) [hF, JaS]
   refine gK _ _ (Kt_ (by simp (disch := omega) []) (Ks_ (Ks_ (Ka_ (gs := [none, none, none, none, none, none, none]) fun K1 gK => ?_))))
   simp (disch := omega) [hF, lx, JaS, hL', hq, hge]
   refine gK _ _ (Kf_ (by simp (disch := omega) []) (Kk_ (Ka_ (gs := [none, none, none, none, none, none, none, none, none]) fun K1 gK => ?_)))
   simp (disch := omega) [hF, lx, JaS, hL', hmul]
   refine gK _ _ (Ks_ (Ks_ (Ka_ (gs := [none, none, none]) fun K1 gK => ?_)))
   simp (disch := omega) [hF, lx]
   refine gK _ _ ?_
   refine Kl_ (p.length) (fun i fr st' => Fs gl [(0, x), (1, .str (S.ofList [c])), (5, .int .i64 ((L + Jhh (p.take i) : Nat) : Int)), (39, x), (40, .int .i64 (p.length : Int)), (41, .int .i64 (i : Int))] fr ∧ i ≤ p.length ∧ st = st') (0) (fun fr st' => Fs gl [(0, x), (1, .str (S.ofList [c])), (5, .int .i64 ((L + Jhh p : Nat) : Int))] fr ∧ st = st') ?_ ?_ ?_ ?_
   ·exact ⟨by simp [Fs, hF, Jhh],  Nat.zero_le _, rfl⟩
   ·rintro i fr st' ⟨_, hi, rfl⟩
    omega
   ·as_aux_lemma =>
    clear hF
    rintro i fr st' ⟨hF, hi, rfl⟩ K2 gk2 gx2 go2
    simp only [Fs] at hF
    refine Ks_ (Ka_ (gs := [none]) fun K1 gK => ?_)
    simp (disch := omega) [hF]
    refine gK _ _ (Ks_ ?_)
    by_cases hlt : i < p.length
    ·
     refine Kt_ (by simp (disch := omega) [hlt]) ?_
     have hxi := hx.ix Tryz.underlying23 z9 (k := .i64) (a := (i : Int)) (by omega) (by omega)
     have hxd := hx.ld z9 a9 hlt
     have hsn := hs _ (List.getElem_mem hlt)
     have hbd := Jin (p.take i) fun s hm => hs s (List.mem_of_mem_take hm)
     rw [List.length_take, Nat.min_eq_left hi] at hbd
     have ls := QT Tryz.underlying9 (s := p[i])
     have hts := JlY hlt
     generalize Jhh (p.take i) = W0 at hF hbd hts
     have hno : ∀ kk, Jd Tryz.prog kk .gtr 3 (.int .i64 (p[i].n : Int)) (.int .i64 (9223372036854775807 - ((L : Int) + (W0 : Int)))) = some (.bool false) := fun kk => by rw [JcV, decide_eq_false (by omega)]
     refine Kk_ (Ks_ ?_)
     refine Kb_ fun K3 gn3 gx3 go3 => ?_
     refine Ks_ (Ka_ (gs := [none, none, none]) fun K1 gK => ?_)
     simp (disch := omega) [hF, hlt, hxi, hxd]
     refine gK _ _ (Ks_ (Ks_ (Ka_ (gs := [none, none, none, none, none]) fun K1 gK => ?_)))
     simp (disch := omega) [hF, ls, hno]
     refine gK _ _ (Kf_ (by simp (disch := omega) []) (Kk_ (Ka_ (gs := [none, none, none, none, none]) fun K1 gK => ?_)))
     simp (disch := omega) [hF, ls]
     refine gK _ _ (gn3 _ _ (Ka_ (gs := [none, none]) fun K1 gK => ?_))
     simp (disch := omega) [hF]
     refine gK _ _ ?_
     refine gk2 (i + 1) _ _ (by omega) ⟨by (rw [hts]; simp [Fs, hF]; omega),  by omega, rfl⟩
    ·
     refine Kf_ (by simp (disch := omega) [hlt]) ?_
     exact Kx_ (gx2 _ _ ⟨by (rw [List.take_of_length_le (by omega)] at hF; simp [Fs, hF]),  rfl⟩)
   ·as_aux_lemma =>
    clear hF
    rintro fr st' ⟨hF, rfl⟩
    simp only [Fs] at hF
    have hbd := Jin p hs
    generalize hW : Jhh p = W0 at hF hbd
    have hb0 : ({ ctr := st.ctr + 1, box := st.box.put st.ctr (.cells [.nilp, .nils] 64 true (some 0)) } : St) = st.new (.cells [.nilp, .nils] 64 true (some 0)) := rfl
    have kn := (Keep.refl st).new' (.cells [.nilp, .nils] 64 true (some 0))
    have bn : (st.new (.cells [.nilp, .nils] 64 true (some 0))).box.get st.ctr = some (.cells [.nilp, .nils] 64 true (some 0)) := by rw [Js, if_pos rfl]
    have cn : (st.new (.cells [.nilp, .nils] 64 true (some 0))).ctr = st.ctr + 1 := rfl
    generalize st.new (.cells [.nilp, .nils] 64 true (some 0)) = q1 at hb0 kn bn cn
    obtain ⟨v, q2, hcg, hbl, hc2, ho2⟩ := Says.use (Jjf gl q1 st.ctr (L + W0) (by omega) (by omega) (by omega) bn)
    have k2 : Keep st q2 := ⟨by omega, fun i hi => by rw [ho2 i (by omega) (by omega)]; exact kn.box i hi⟩
    have hx2 := hx.keep k2
    have hxi := hx2.ix Tryz.underlying23 z9 (k := .i64) (a := 0) (by omega) (by omega)
    have hxd := hx2.ld z9 a9 (show 0 < p.length by omega)
    have hs0 := hs _ (List.getElem_mem (show 0 < p.length by omega))
    obtain ⟨v2, q3, hcw, hbl3, hl3⟩ := Says.use (Jb6 gl q2 st.ctr st.ctr [] p[0] hbl (by simp; omega))
    have k3 : Keep st q3 := hl3.keep k2 (Nat.le_refl _)
    obtain ⟨y, hy, hvy0⟩ := Jqm hx (by omega)
    have hvy := hvy0.keep k3
    have lly := hvy.len Tryz.underlying23
    have hdl : (p.drop 1).length = L := by simp; omega
    rw [hdl] at lly
    have hcg' : JaC Tryz.prog (ihCall (W Tryz.prog)) gl 65 [.ptr st.ctr 0, .int .i64 ((L : Int) + (W0 : Int))] q1 = .val v q2 := hcg
    refine Ks_ (Ka_ (gs := [none]) fun K1 gK => ?_)
    simp (disch := omega) [Jay, hb0, JN]
    refine gK _ _ (Ks_ (Ka_ (gs := [none, none]) fun K1 gK => ?_))
    simp (disch := omega) [hF, hcg']
    refine gK _ _ (Ks_ (Ka_ (gs := [none, none, none, none]) fun K1 gK => ?_))
    simp (disch := omega) [hF, hxi, hxd, hcw]
    refine gK _ _ (Ks_ (Ks_ (Ka_ (gs := [none, none, none, none]) fun K1 gK => ?_)))
    simp (disch := omega) [hF, hy, lly]
    refine gK _ _ ?_
    refine Kl_ (L) (fun i fr st' => Fs gl [(1, .str (S.ofList [c])), (8, .ptr st.ctr 0), (63, y), (64, .int .i64 (L : Int)), (65, .int .i64 (i : Int))] fr ∧ i ≤ L ∧ Keep st st' ∧ Bld st.ctr st.ctr st' (p[0].toList ++ ((p.drop 1).take i).flatMap fun s => c :: s.toList)) (0) (fun fr st' => Fs gl [(8, .ptr st.ctr 0)] fr ∧ Keep st st' ∧ Bld st.ctr st.ctr st' (Jby c p)) ?_ ?_ ?_ ?_
    ·exact ⟨by simp [Fs, hF], Nat.zero_le _, k3, by simpa using hbl3⟩
    ·rintro i fr st' ⟨_, hi, hk, hbl⟩
     omega
    ·as_aux_lemma =>
     clear hF
     rintro i fr st' ⟨hF, hi, hk, hbl⟩ K4 gk4 gx4 go4
     simp only [Fs] at hF
     refine Ks_ (Ka_ (gs := [none]) fun K1 gK => ?_)
     simp (disch := omega) [hF]
     refine gK _ _ (Ks_ ?_)
     by_cases hlt : i < L
     ·
      refine Kt_ (by simp (disch := omega) [hlt]) ?_
      have hlt' : i < (p.drop 1).length := by omega
      have hvy := hvy0.keep hk
      have hyi := hvy.ix Tryz.underlying23 z9 (k := .i64) (a := (i : Int)) (by omega) (by omega)
      have hyd := hvy.ld z9 a9 hlt'
      have hsi := hs _ (List.mem_of_mem_drop (List.getElem_mem hlt'))
      have hpl := JdP c ((p.drop 1).take i) fun s hm => hs s (List.mem_of_mem_drop (List.mem_of_mem_take hm))
      have hs00 := hs _ (List.getElem_mem (show 0 < p.length by omega))
      have hcl : (p[0].toList ++ ((p.drop 1).take i).flatMap fun s => c :: s.toList).length ≤ 2000000000 := by
       rw [List.length_append, S.len]
       rw [List.length_take] at hpl
       omega
      generalize hacc : (p[0].toList ++ ((p.drop 1).take i).flatMap fun s => c :: s.toList) = acc at hbl hcl
      obtain ⟨v4, q5, hw1, hb5, hl5⟩ := Says.use (Jb6 gl st' st.ctr st.ctr acc (S.ofList [c]) hbl (by rw [Jf]; simp; omega))
      obtain ⟨v5, q6, hw2, hb6, hl6⟩ := Says.use (Jb6 gl q5 st.ctr st.ctr _ (p.drop 1)[i] hb5 (by rw [List.length_append, S.toList_ofList]; simp; simp at hsi; omega))
      have k6 : Keep st q6 := (hl5.trans hl6).keep hk (Nat.le_refl _)
      have hnm : (p.drop 1)[i] = p[i + 1]'(by omega) := by simp
      rw [hnm] at hyd hw2
      refine Kk_ (Ks_ ?_)
      refine Kb_ fun K5 gn5 gx5 go5 => ?_
      refine Ks_ (Ka_ (gs := [none, none, none]) fun K1 gK => ?_)
      simp (disch := omega) [hF, hlt, hyi, hyd]
      refine gK _ _ (Ks_ (Ka_ (gs := [none, none]) fun K1 gK => ?_))
      simp (disch := omega) [hF, hw1]
      refine gK _ _ (Ka_ (gs := [none, none]) fun K1 gK => ?_)
      simp (disch := omega) [hF, hw2]
      refine gK _ _ (gn5 _ _ (Ka_ (gs := [none, none]) fun K1 gK => ?_))
      simp (disch := omega) [hF]
      refine gK _ _ ?_
      refine gk4 (i + 1) _ _ (by omega) ⟨by simp [Fs, hF], by omega, k6, by (rw [S.toList_ofList] at hb6; rw [JhG hlt', ← List.append_assoc, hacc]; simpa using hb6)⟩
     ·
      refine Kf_ (by simp (disch := omega) [hlt]) ?_
      exact Kx_ (gx4 _ _ ⟨by simp [Fs, hF, hlt], hk, by (rw [List.take_of_length_le (by omega), Jof (by omega)] at hbl; exact hbl)⟩)
    ·as_aux_lemma =>
     clear hF
     rintro fr st' ⟨hF, hk, hbl⟩
     simp only [Fs] at hF
     have hjl : (Jby c p).length ≤ 1000000000000 := Nat.le_trans (JlZ hp hs) (by omega)
     have hjn := Joe (c := c) h2
     obtain ⟨v3, q4, hst, ⟨t, rfl, ht⟩, hl4⟩ := Says.use (Jff gl st' st.ctr st.ctr (Jby c p) hbl hjl hjn)
     refine Ks_ (Ka_ (gs := [none, none]) fun K1 gK => ?_)
     simp (disch := omega) [hF, hst]
     refine gK _ _ (Kq_ (gr _ _ ?_))
     simp [Jx, Tryz.f39, hF]
     refine hR _ _ ?_
     exact ⟨⟨t, rfl, ht⟩, hl4.keep hk (Nat.le_refl _)⟩
omit [NZ] in
set_option maxRecDepth 100000 in
theorem JgA (gl : Gl) (st : St) (x : V) (p : List S) (hx : Vw st x p) (hp : p.length ≤ 250) (hs : ∀ s ∈ p, s.n ≤ 300) :
  Says Tryz.prog gl 45 [x] st (fun v st' => (∃ t : S, v = .str t ∧ t.toList = Jck p) ∧ Keep st st') := by
 refine Qa (NY.no _ rfl rfl rfl _ _) Tryz.func45 rfl (by kernel_rfl) fun R hR K gr gn => ?_
 generalize hfr : Jy gl [x] = fr
 have hF : Fs gl [(0, x)] fr := by subst hfr; simp [Fs]
 simp only [Fs] at hF
 clear hfr
 have lx := hx.len Tryz.underlying23
 refine Ks_ (Ka_ (gs := [none]) fun K1 gK => ?_)
 simp (disch := omega) []
 refine gK _ _ (Ks_ (Ks_ (Ka_ (gs := [none, none, none]) fun K1 gK => ?_)))
 simp (disch := omega) [hF, lx]
 refine gK _ _ ?_
 by_cases h0 : p = []
 ·
  refine Kt_ (by simp (disch := omega) [h0]) (Ks_ (Ka_ (gs := [none]) fun K1 gK => ?_))
  simp (disch := omega) [h0]
  refine gK _ _ (Kq_ (gr _ _ ?_))
  simp [Jx, Tryz.f45, hF]
  refine hR _ _ ?_
  exact ⟨⟨S.ofList [47], rfl, by rw [h0]; rfl⟩, .refl _⟩
 ·
  refine Kf_ (by simp (disch := omega) [h0]) ?_
  obtain ⟨v, q1, hj, ⟨t, rfl, ht⟩, hk⟩ := Says.use (Jlg gl 47 st x p hx (by omega) (fun s h => Nat.le_trans (hs s h) (by omega)))
  have htn : t.n ≤ 76000 := by
   have h1 := congrArg List.length ht
   rw [S.len] at h1
   have := JmW hp hs
   omega
  have ad : ∀ kk, Jd Tryz.prog kk .add 9 (.str (S.ofList [47])) (.str t) = some (.str ((S.ofList [47]).app t)) := fun kk => JA (by rw [Jf]; simp; omega)
  refine Kk_ (Ks_ (Ka_ (gs := [none, none, none, none]) fun K1 gK => ?_))
  simp (disch := omega) [hF, h0, hj, ad]
  refine gK _ _ (Kq_ (gr _ _ ?_))
  simp [Jx, Tryz.f45, hF]
  refine hR _ _ ?_
  exact ⟨⟨_, rfl, by rw [S.toList_app, S.toList_ofList, ht, JlX h0]; rfl⟩, hk⟩
end Go.Vm
