/- Nodes that are the same: by the document, by the program; how many nodes there are. -/
import Derived.Test.YtphinjijaglokaaGreatDoorSzO
import Derived.Test.YtphinjijaglokaaGreatDoorSzB
import Derived.Test.YtphinjijaglokaaGreatDoorSz0
import Derived.Test.YtphinjijaglokaaGreatDoorSzG
namespace Go.Vm
open Go Go.Proofs Go.Pa
attribute [local simp] OkP QH OkS Qi OkG Qh Qp OkD JY Qr JI Jm Jq vop Js JB ev evs toV Jl Fr.dsTo Fr.glTo Fr.toNone Ji Jj Jk Qk QL Jd JD Jv V.undef JW JM J7 JX J3 J9 J8 Qa JH J4 J5 JZ JO Qb Jt Ju Jw Jz JE Jr JL JN JK Qq
theorem Jg0 : ∀ (l m : List Nt), JaX l m = Jbi Jbs l m
 | [], [] => rfl
 | [], _ :: _ => rfl
 | _ :: _, [] => rfl
 | a :: l, b :: m => by simp only [JaX, Jbi, Jg0 l m]
theorem Jk0 (st : St) (a b : List V) : ∃ q : St, ({ ctr := st.ctr + 1 + 1, box := (st.box.put st.ctr (.cells a 25 true (some 0))).put (st.ctr + 1) (.cells b 25 true (some 0)) } : St) = q ∧ Keep st q ∧ NB q st.ctr a ∧ NB q (st.ctr + 1) b ∧ q.ctr = st.ctr + 2 := by
 refine ⟨_, rfl, ⟨by show st.ctr ≤ st.ctr + 1 + 1; omega, fun i hi => ?_⟩, ⟨?_, by show st.ctr < st.ctr + 1 + 1; omega⟩, ⟨?_, by show st.ctr + 1 < st.ctr + 1 + 1; omega⟩, rfl⟩
 ·simp only [Tr.get_put]; rw [if_neg (by omega), if_neg (by omega)]
 ·simp only [Tr.get_put]; rw [if_neg (by omega)]; simp
 ·simp only [Tr.get_put]; simp
variable [Memo] [NY]
def Joo [Memo] (gl : Gl) (f : Nat) (t : Nt) : Prop := ∀ (st : St) (cs cs' : List V) (t' : Nt), NR st cs t → NR st cs' t' → t'.fit → Says Tryz.prog gl f [.agg cs, .agg cs'] st fun v st' => v = .bool (Jbs t t') ∧ Keep st st'
set_option maxHeartbeats 8000000 in
set_option maxRecDepth 100000 in
theorem Jjz (gl : Gl) (st : St) (kind : Nat) (text : S) (nv kv : V) (names : List S) (kids : List Nt) (css : List (List V)) (kind' : Nat) (text' : S) (nv' kv' : V) (names' : List S) (kids' : List Nt) (css' : List (List V)) (hn : Vw st nv names) (hn' : Vw st nv' names') (hkv : NRs st kv css kids) (hkv' : NRs st kv' css' kids') (hz : vsz nv ≤ 200000000 ∧ vsz kv ≤ 200000000) (hz' : vsz nv' ≤ 200000000 ∧ vsz kv' ≤ 200000000) (hnl : names.length ≤ 900000) (hkl : kids.length ≤ 900000) (hf' : ∀ t ∈ kids', t.fit) (ih : ∀ t ∈ kids, Joo gl 15 t) :
  Says Tryz.prog gl 15 [.agg [.int .u8 (kind : Int), .str text, nv, kv], .agg [.int .u8 (kind' : Int), .str text', nv', kv']] st (fun v st' => v = .bool (Jbs (.mk kind text names kids) (.mk kind' text' names' kids')) ∧ Keep st st') := by
 refine JS (NY.no _ rfl rfl rfl _ _) Tryz.func15 rfl (by kernel_rfl) fun R hR K gr gn => ?_
 generalize hfr : Jx gl [.agg [.int .u8 (kind : Int), .str text, nv, kv], .agg [.int .u8 (kind' : Int), .str text', nv', kv']] = fr
 have hF : Fs gl [(0, .agg [.int .u8 (kind : Int), .str text, nv, kv]), (1, .agg [.int .u8 (kind' : Int), .str text', nv', kv'])] fr := by subst hfr; simp [Fs]
 simp only [Fs] at hF
 clear hfr
 have ho : ([.int .u8 (kind : Int), .str text, nv, kv] : List V).all Qn = true := by simp only [List.all_cons, hn.one, hkv.s.one]; rfl
 have ho' : ([.int .u8 (kind' : Int), .str text', nv', kv'] : List V).all Qn = true := by simp only [List.all_cons, hn'.one, hkv'.s.one]; rfl
 generalize hcs : ([.int .u8 (kind : Int), .str text, nv, kv] : List V) = cs at ho hF
 generalize hcs' : ([.int .u8 (kind' : Int), .str text', nv', kv'] : List V) = cs' at ho' hF
 obtain ⟨q, hb, kq, hT, hT', cq⟩ := Jk0 st cs cs'
 rw [← hcs] at hT
 rw [← hcs'] at hT'
 obtain ⟨l0, l1, l2, l3, _⟩ := hT.ld
 obtain ⟨m0, m1, m2, m3, _⟩ := hT'.ld
 have ln := (hn.keep kq).len Tryz.underlying22
 have lk := (hkv.keep kq).s.len Tryz.underlying23
 have ln' := (hn'.keep kq).len Tryz.underlying22
 have lk' := (hkv'.keep kq).s.len Tryz.underlying23
 rw [hkv.l] at lk
 rw [hkv'.l] at lk'
 simp only [Jbs, Jg0] at hR
 obtain ⟨A, hA⟩ : ∃ b, decide (kind = kind') = b := ⟨_, rfl⟩
 obtain ⟨B, hB⟩ : ∃ b, text.same text' = b := ⟨_, rfl⟩
 obtain ⟨C, hC⟩ : ∃ b, decide (names.length = names'.length) = b := ⟨_, rfl⟩
 obtain ⟨D, hD⟩ : ∃ b, decide (kids.length = kids'.length) = b := ⟨_, rfl⟩
 have eA : ∀ kk, Jn Tryz.prog kk .neq 5 (.int .u8 (kind : Int)) (.int .u8 (kind' : Int)) = some (.bool (!A)) := fun kk => by rw [← hA]; exact JX
 have eC : ∀ kk, Jn Tryz.prog kk .neq 3 (.int .i64 (names.length : Int)) (.int .i64 (names'.length : Int)) = some (.bool (!C)) := fun kk => by rw [← hC]; exact JX
 have eD : ∀ kk, Jn Tryz.prog kk .neq 3 (.int .i64 (kids.length : Int)) (.int .i64 (kids'.length : Int)) = some (.bool (!D)) := fun kk => by rw [← hD]; exact JX
 rw [hA, hB] at hR
 refine Ks_ (Ka_ (gs := [none, none, none]) fun K1 gK => ?_)
 simp (disch := omega) [hF, Ja, ho, ho', hb]
 refine gK _ _ (Ks_ (Ks_ ?_))
 refine Km_ (fun fr st' => Fs gl [(2, .ptr st.ctr 0), (3, .ptr (st.ctr + 1) 0), (36, .bool (!(((A && B) && C) && D)))] fr ∧ q = st') ?_ ?_
 ·as_aux_lemma =>
  intro K1 gm1 go1
  refine Ka_ (gs := [none, none, none, none, none, none, some (some 12, false), some (some 12, false), some (some 12, false), some (some 12, false), some (some 12, false), none, none, some (some 19, false), some (some 19, false), some (some 19, false), some (some 19, false), some (some 19, false), some (some 19, false), some (some 19, false), none, none, some (some 28, false), some (some 28, false), some (some 28, false), some (some 28, false), some (some 28, false), some (some 28, false), some (some 28, false), none]) fun K1 gK => ?_
  refine OkG.cutK 13 (fun fr st' => Fs gl [(2, .ptr st.ctr 0), (3, .ptr (st.ctr + 1) 0), (19, .bool (!(A && B)))] fr ∧ q = st') (by kernel_rfl) ?_ ?_
  ·as_aux_lemma =>
   intro Kc gKc
   simp only [List.take]
   cases A with
   | true =>
    simp (disch := omega) [gN0, gN1, l0, l1, m0, m1, eA, hB]
    exact gKc _ _ ⟨by simp [Fs, hF], rfl⟩
   | false =>
    simp (disch := omega) [gN0, l0, m0, eA]
    exact gKc _ _ ⟨by simp [Fs, hF], rfl⟩
  ·as_aux_lemma =>
   clear hF
   rintro fr st' ⟨hF, rfl⟩
   simp only [Fs] at hF
   simp only [List.drop]
   obtain ⟨X, hX⟩ : ∃ b, (A && B) = b := ⟨_, rfl⟩
   rw [hX] at hF
   refine OkG.cutK 9 (fun fr st' => Fs gl [(2, .ptr st.ctr 0), (3, .ptr (st.ctr + 1) 0), (28, .bool (!(X && C)))] fr ∧ q = st') (by kernel_rfl) ?_ ?_
   ·as_aux_lemma =>
    intro Kc gKc
    simp only [List.take]
    cases X with
    | true =>
     simp (disch := omega) [hF, gN2, l2, m2, ln, ln', eC]
     exact gKc _ _ ⟨by simp [Fs, hF], rfl⟩
    | false =>
     simp (disch := omega) [hF]
     exact gKc _ _ ⟨by simp [Fs, hF], rfl⟩
   ·as_aux_lemma =>
    clear hF
    rintro fr st' ⟨hF, rfl⟩
    simp only [Fs] at hF
    simp only [List.drop]
    obtain ⟨Y, hY⟩ : ∃ b, (X && C) = b := ⟨_, rfl⟩
    rw [hY] at hF
    cases Y with
    | true =>
     simp (disch := omega) [hF, gN3, l3, m3, lk, lk', eD]
     refine gK _ _ ?_
     exact gm1 _ _ ⟨by simp [Fs, hF, hX, hY],  rfl⟩
    | false =>
     simp (disch := omega) [hF]
     refine gK _ _ ?_
     exact gm1 _ _ ⟨by simp [Fs, hF, hX, hY],  rfl⟩
 ·as_aux_lemma =>
  clear hF
  rintro fr st' ⟨hF, rfl⟩
  simp only [Fs] at hF
  obtain ⟨Z, hZ⟩ : ∃ b, (((A && B) && C) && D) = b := ⟨_, rfl⟩
  rw [hZ] at hF
  cases Z with
  | true =>
   refine Kf_ (by simp (disch := omega) [hF]) ?_
   have hABCD : A = true ∧ B = true ∧ C = true ∧ D = true := by cases A <;> cases B <;> cases C <;> cases D <;> simp at hZ ⊢
   obtain ⟨z1, z2, z3, z4⟩ := hABCD
   rw [z3] at hC
   rw [z4] at hD
   have hC := of_decide_eq_true hC
   have hD := of_decide_eq_true hD
   have hvn : veq 1000000000 nv nv = true := Qz _ (by omega)
   have hvk : veq 1000000000 kv kv = true := Qz _ (by omega)
   have hvn' : veq 1000000000 nv' nv' = true := Qz _ (by omega)
   have hvk' : veq 1000000000 kv' kv' = true := Qz _ (by omega)
   refine Kk_ (Ks_ (Ks_ (Ka_ (gs := [none]) fun K1 gK => ?_)))
   simp (disch := omega) []
   refine gK _ _ ?_
   refine Kl_ (names.length) (fun i fr st' => Fs gl [(2, .ptr st.ctr 0), (3, .ptr (st.ctr + 1) 0), (5, .int .i64 (i : Int))] fr ∧ i ≤ names.length ∧ Jga S.same names names' i ∧ Keep q st') (0) (fun fr st' => Fs gl [(2, .ptr st.ctr 0), (3, .ptr (st.ctr + 1) 0)] fr ∧ Jbi S.same names names' = true ∧ Keep q st') ?_ ?_ ?_ ?_
   ·exact ⟨by simp [Fs, hF], Nat.zero_le _, JdI _ _ _, .refl _⟩
   ·rintro i fr st' ⟨_, hi, hu, hk⟩
    omega
   ·as_aux_lemma =>
    clear hF
    rintro i fr st' ⟨hF, hi, hu, hk⟩ K2 gk2 gx2 go2
    simp only [Fs] at hF
    have gr2 := fun fr st h => go2 AE.ret fr st trivial (gr fr st h)
    have n2 := (hT.keep hk).ld.l2
    refine Ks_ (Ks_ (Ka_ (gs := [none, none, none, none, none]) fun K1 gK => ?_))
    simp (disch := omega) [hF, gN2, ln, n2]
    refine gK _ _ ?_
    by_cases hlt : i < names.length
    ·
     refine Kt_ (by simp (disch := omega) [hlt]) ?_
     have hlt' : i < names'.length := by omega
     obtain ⟨q1, hq1, kq1, cq1⟩ := Jcb st' 11
     have ka := hk.trans kq1
     have ha := hn.keep (kq.trans ka)
     have ha' := hn'.keep (kq.trans ka)
     have x1 := ha.ix Tryz.underlying22 z9 (k := .i64) (a := (i : Int)) (by omega) (by omega)
     have x2 := ha.ld z9 a9 hlt
     have x3 := ha'.ix Tryz.underlying22 z9 (k := .i64) (a := (i : Int)) (by omega) (by omega)
     have x4 := ha'.ld z9 a9 hlt'
     have o2 := (hT.keep ka).ld.l2
     have p2 := (hT'.keep ka).ld.l2
     obtain ⟨E, hE⟩ : ∃ b, names[i].same names'[i] = b := ⟨_, rfl⟩
     refine Kk_ (Ks_ ?_)
     refine Kb_ fun K3 gn3 gx3 go3 => ?_
     have gr3 := fun fr st h => go3 AE.ret fr st trivial (gr2 fr st h)
     refine Ks_ (Kh_ (b := [0, 1, 0, 7, 15, 0, 32, 0, 224, 480, 1023]) (gs := [none, none, none, none, none, none, none, none, none, none, none]) fun K1 gK => ?_)
     simp (disch := omega) [hF, gN2, hvn, hvn', hlt, hq1, x1, x2, x3, x4, o2, p2, hE]
     refine gK _ _ ?_
     cases E with
     | true =>
      refine Kf_ (by simp (disch := omega) []) (Kk_ (gn3 _ _ (Ka_ (gs := [none, none, none]) fun K1 gK => ?_)))
      simp (disch := omega) [hF]
      refine gK _ _ ?_
      refine gk2 (i + 1) _ _ (by omega) ⟨by simp [Fs, hF], by omega, JdJ hu hlt hlt' hE, ka⟩
     | false =>
      refine Kt_ (by simp (disch := omega) []) (Ks_ (Ka_ (gs := [none]) fun K1 gK => ?_))
      simp (disch := omega) []
      refine gK _ _ (Kq_ (gr3 _ _ ?_))
      simp [JC, Tryz.f15, hF]
      refine hR _ _ ?_
      exact ⟨by rw [Jed hlt hlt' hE]; simp, kq.trans ka⟩
    ·
     refine Kf_ (by simp (disch := omega) [hlt]) ?_
     exact Kx_ (gx2 _ _ ⟨by simp [Fs, hF, hlt], Jdh hC hu (by omega), hk⟩)
   ·as_aux_lemma =>
    clear hF
    rintro fr st' ⟨hF, hu, hk⟩
    simp only [Fs] at hF
    refine Ks_ (Ks_ (Ka_ (gs := [none]) fun K1 gK => ?_))
    simp (disch := omega) []
    refine gK _ _ ?_
    refine Kl_ (kids.length) (fun i fr st' => Fs gl [(2, .ptr st.ctr 0), (3, .ptr (st.ctr + 1) 0), (6, .int .i64 (i : Int))] fr ∧ i ≤ kids.length ∧ Jga Jbs kids kids' i ∧ Keep q st') (0) (fun fr st' => Fs gl [] fr ∧ Jbi Jbs kids kids' = true ∧ Keep q st') ?_ ?_ ?_ ?_
    ·exact ⟨by simp [Fs, hF], Nat.zero_le _, JdI _ _ _, hk⟩
    ·rintro i fr st' ⟨_, hi, hw, hk⟩
     omega
    ·as_aux_lemma =>
     clear hF
     rintro i fr st' ⟨hF, hi, hw, hk⟩ K4 gk4 gx4 go4
     simp only [Fs] at hF
     have gr4 := fun fr st h => go4 AE.ret fr st trivial (gr fr st h)
     have n3 := (hT.keep hk).ld.l3
     refine Ks_ (Ks_ (Ka_ (gs := [none, none, none, none, none]) fun K1 gK => ?_))
     simp (disch := omega) [hF, gN3, lk, n3]
     refine gK _ _ ?_
     by_cases hlt : i < kids.length
     ·
      refine Kt_ (by simp (disch := omega) [hlt]) ?_
      have hlt' : i < kids'.length := by omega
      obtain ⟨q1, hq1, kq1, cq1⟩ := Jcb st' 12
      have ka := hk.trans kq1
      have ha := hkv.keep (kq.trans ka)
      have ha' := hkv'.keep (kq.trans ka)
      have hls : i < css.length := by rw [hkv.l]; exact hlt
      have hls' : i < css'.length := by rw [hkv'.l]; exact hlt'
      have x1 := ha.s.ix Tryz.underlying23 Jbh (k := .i64) (a := (i : Int)) (by omega) (by omega)
      have x2 := ha.s.ld Jbh Jdo hls
      have x3 := ha'.s.ix Tryz.underlying23 Jbh (k := .i64) (a := (i : Int)) (by omega) (by omega)
      have x4 := ha'.s.ld Jbh Jdo hls'
      have o2 := (hT.keep ka).ld.l3
      have p2 := (hT'.keep ka).ld.l3
      have v1 := (ha.r i hls hlt).veq
      have v2 := (ha'.r i hls' hlt').veq
      obtain ⟨v, s1, hc1, rfl, hk1⟩ := Says.use (ih _ (List.getElem_mem hlt) q1 _ _ _ (ha.r i hls hlt) (ha'.r i hls' hlt') (hf' _ (List.getElem_mem hlt')))
      obtain ⟨E, hE⟩ : ∃ b, Jbs kids[i] kids'[i] = b := ⟨_, rfl⟩
      rw [hE] at hc1
      refine Kk_ (Ks_ ?_)
      refine Kb_ fun K5 gn5 gx5 go5 => ?_
      have gr5 := fun fr st h => go5 AE.ret fr st trivial (gr4 fr st h)
      refine Ks_ (Kh_ (b := [0, 1, 0, 7, 15, 0, 32, 0, 224, 480, 1023, 2047]) (gs := [none, none, none, none, none, none, none, none, none, none, none, none]) fun K1 gK => ?_)
      simp (disch := omega) [hF, gN3, hvk, hvk', hlt, hq1, x1, x2, x3, x4, o2, p2, v1, v2, hc1]
      refine gK _ _ ?_
      cases E with
      | true =>
       refine Kf_ (by simp (disch := omega) []) (Kk_ (gn5 _ _ (Ka_ (gs := [none, none, none]) fun K1 gK => ?_)))
       simp (disch := omega) [hF]
       refine gK _ _ ?_
       refine gk4 (i + 1) _ _ (by omega) ⟨by simp [Fs, hF], by omega, JdJ hw hlt hlt' hE, ka.trans hk1⟩
      | false =>
       refine Kt_ (by simp (disch := omega) []) (Ks_ (Ka_ (gs := [none]) fun K1 gK => ?_))
       simp (disch := omega) []
       refine gK _ _ (Kq_ (gr5 _ _ ?_))
       simp [JC, Tryz.f15, hF]
       refine hR _ _ ?_
       exact ⟨by rw [Jed hlt hlt' hE]; simp, kq.trans (ka.trans hk1)⟩
     ·
      refine Kf_ (by simp (disch := omega) [hlt]) ?_
      exact Kx_ (gx4 _ _ ⟨by simp [Fs, hF, hlt], Jdh hD hw (by omega), hk⟩)
    ·as_aux_lemma =>
     clear hF
     rintro fr st' ⟨hF, hw, hk⟩
     simp only [Fs] at hF
     refine Ks_ (Ka_ (gs := [none]) fun K1 gK => ?_)
     simp (disch := omega) []
     refine gK _ _ (Kq_ (gr _ _ ?_))
     simp [JC, Tryz.f15, hF]
     refine hR _ _ ?_
     exact ⟨by rw [hu, hw, z1, z2]; rfl, kq.trans hk⟩
  | false =>
   refine Kt_ (by simp (disch := omega) [hF]) (Ks_ (Ka_ (gs := [none]) fun K1 gK => ?_))
   simp (disch := omega) []
   refine gK _ _ (Kq_ (gr _ _ ?_))
   simp [JC, Tryz.f15, hF]
   refine hR _ _ ?_
   refine ⟨?_, kq⟩
   cases A with
   | false => rfl
   | true => cases B with
    | false => rfl
    | true => cases C with
     | false => rw [Jec (p := S.same) (of_decide_eq_false hC)]; rfl
     | true => cases D with
      | false => rw [Jec (p := Jbs) (of_decide_eq_false hD)]; simp
      | true => cases hZ
theorem JlX (gl : Gl) : ∀ t : Nt, t.fit → Joo gl 15 t := Nt.ind fun kind text names kids ih hf st cs cs' t' h h' hf' => by
 cases hf with
 | mk _ _ _ _ ht hnl hkl hns hks =>
 cases h with
 | mk kind text nv kv names kids css hk hn hs hl hz hr =>
 cases h' with
 | mk kind' text' nv' kv' names' kids' css' hk' hn' hs' hl' hz' hr' =>
 cases hf' with
 | mk _ _ _ _ ht' hnl' hkl' hns' hks' => exact Jjz gl st kind text nv kv names kids css kind' text' nv' kv' names' kids' css' hn hn' ⟨hs, hl, hr⟩ ⟨hs', hl', hr'⟩ hz hz' hnl hkl hks' fun t ht => ih t ht (hks t ht)
end Go.Vm
namespace Go.Vm
open Go Go.Proofs Go.Pa
attribute [local simp] OkP QH OkS Qi OkG Qh Qp OkD JY Qr JI Jm Jq vop Js JB ev evs toV Jl Fr.dsTo Fr.glTo Fr.toNone Ji Jj Jk Qk QL Jd JD Jv V.undef JW JM J7 JX J3 J9 J8 Qa JH J4 J5 JZ JO Qb Jt Ju Jw Jz JE Jr JL JN JK Qq
theorem Jop (st : St) {cs : List V} (hl : cs.length = 4) (ho : cs.all Qn = true) : ∃ w w2 : St, ({ ctr := st.ctr + 1, box := st.box.put st.ctr (.cells [.int .u8 0, .str ⟨0, 0⟩, .nils, .nils] 25 true (some 0)) } : St) = w ∧ Q0 Tryz.prog w 25 (.ptr st.ctr 0) (.agg cs) = some w2 ∧ w2.box.get st.ctr = some (.cells cs 25 true (some 0)) ∧ Keep st w2 ∧ st.ctr < w2.ctr := by
 have kw := JJ st [.int .u8 0, .str ⟨0, 0⟩, .nils, .nils] 25
 have bw := QF st [.int .u8 0, .str ⟨0, 0⟩, .nils, .nils] 25
 have cw := QO st [.int .u8 0, .str ⟨0, 0⟩, .nils, .nils] 25
 obtain ⟨w2, hw, bw2, ow⟩ := Jah bw rfl hl ho
 exact ⟨_, w2, Qc st _ 25, hw, bw2, ⟨by have := ow.ctr; omega, fun j hj => by rw [ow.box j (by omega), kw.box j hj]⟩, by have := ow.ctr; omega⟩
theorem o1 : Qn (V.int IntKind.u8 0) = true := rfl
variable [Memo] [NY]
end Go.Vm
namespace Go.Vm
open Go Go.Proofs Go.RowKit Go.Pa
set_option maxRecDepth 100000
theorem JfV : ∀ (css : List (List V)) (kids : List Nt), css.length = kids.length → (∀ i (h : i < css.length) (h' : i < kids.length), kids[i].mass ≤ vtots css[i]) → JaH kids ≤ vtots css.flatten
 | [], [], _, _ => by simp [JaH]
 | [], _ :: _, h, _ => by simp at h
 | _ :: _, [], h, _ => by simp at h
 | c :: css, t :: kids, h, hm => by
  have h1 := hm 0 (by simp) (by simp)
  have h2 := JfV css kids (by simpa using h) fun i a b => hm (i + 1) (by simpa using a) (by simpa using b)
  simp only [List.getElem_cons_zero] at h1
  rw [List.flatten_cons, JbX, JaH]; omega
theorem JfW : ∀ l : List S, JbI l ≤ vtots (l.flatMap sC)
 | [] => by simp [JbI]
 | s :: l => by
  have := JfW l
  have h1 : vtots (sC s) = s.n + 1 := by simp [sC, vtots, vtot]
  rw [List.flatMap_cons, JbX, JbI]; omega
theorem Jg1 {α : Type} {p : α → Nt → Prop} : ∀ l : List α, (∀ a ∈ l, ∃ t, p a t) → ∃ ts : List Nt, ts.length = l.length ∧ ∀ i (h : i < l.length) (h' : i < ts.length), p l[i] ts[i]
 | [], _ => ⟨[], rfl, fun i h => by simp at h⟩
 | a :: l, h => by
  obtain ⟨t, ht⟩ := h a (by simp)
  obtain ⟨ts, h1, h2⟩ := Jg1 l fun b hb => h b (by simp [hb])
  refine ⟨t :: ts, by simp [h1], fun i a b => ?_⟩
  cases i with
  | zero => exact ht
  | succ i => exact h2 i (by simpa using a) (by simpa using b)
def JlY (vs : List V) (t : Nt) : Prop := (∀ st, NR st vs t) ∧ t.mass ≤ vtots vs
theorem node_of : ∀ (n : Nat) {vs : List V}, Shp Tryz.prog n 25 vs → vtots vs ≤ 60000000 → ∃ t : Nt, JlY vs t := by
 intro n
 induction n using Nat.strongRecOn with
 | ind n ih =>
 intro vs h hv
 cases n with
 | zero => exact h.elim
 | succ n =>
  simp only [Shp, Tryz.underlying25] at h
  obtain ⟨ls, rfl, hlen, hf⟩ := h
  match ls, hlen, hf with
  | [l0, l1, l2, l3], _, hf =>
   have h0 := hf 0 _ l0 rfl rfl
   have h1 := hf 1 _ l1 rfl rfl
   have h2 := hf 2 _ l2 rfl rfl
   have h3 := hf 3 _ l3 rfl rfl
   obtain ⟨nv, names, rfl, hn⟩ := JnJ h2
   cases n with
   | zero => exact h0.elim
   | succ n =>
    obtain ⟨kv, css, rfl, hk, hks⟩ := Jmd (f := id) (Q := fun l => Shp Tryz.prog n 25 l) Tryz.underlying23 h3 (fun l hl => ⟨l, rfl, hl⟩)
    simp only [Shp] at h0 h1
    obtain ⟨i, rfl, hi⟩ := h0
    obtain ⟨text, rfl, _⟩ := h1
    obtain ⟨k, rfl, hk2⟩ := Jps hi
    have hv2 : vtot nv + vtot kv ≤ 60000000 ∧ text.n + 2 + (vtot nv + vtot kv) ≤ vtots ([[V.int .u8 (k : Int)], [V.str text], [nv], [kv]] : List (List V)).flatten := by
     simp only [List.flatten_cons, List.flatten_nil, List.append_nil, List.cons_append, List.nil_append, vtots, vtot] at hv ⊢
     omega
    have hfl : css.flatMap id = css.flatten := by simp [List.flatMap_def]
    have hkt : vtots css.flatten + 1 ≤ vtot kv + 1 := by
     cases hk with
     | nils => simp [vtots]
     | sl l ex => rw [← hfl]; simp [vtot]
    have hnt : JbI names ≤ vtot nv := by
     have := JfW names
     cases hn with
     | nils => simp [JbI]
     | sl l ex => simp only [vtot]; omega
    have hmem : ∀ l ∈ css, vtots l ≤ vtots css.flatten := fun l hl => by
     have := Jhd (f := id) hl
     rwa [hfl] at this
    obtain ⟨kids, hl, hkn⟩ := Jg1 (p := fun l t => JlY l t) css fun l hl => ih n (by omega) (hks l hl) (by have := hmem l hl; omega)
    have hm := JfV css kids hl.symm fun i h h' => (hkn i h h').2
    have hz4 : Rz 4 css := fun c hc => by
     obtain ⟨i, hi, rfl⟩ := List.getElem_of_mem hc
     exact ((hkn i hi (by omega)).1 ⟨0, .nil⟩).len
    have q1 := JhL nv
    have q2 := JhL kv
    refine ⟨.mk k text names kids, fun st => ?_, ?_⟩
    ·refine .mk k text nv kv names kids css hk2 (hn.vw st) ?_ hl.symm ⟨by omega, by omega⟩ fun i h h' => (hkn i h h').1 st
     cases hk with
     | nils => exact .nils
     | sl l ex => rw [hfl]; exact .sl css ex hz4
    ·simp only [Nt.mass]; omega
abbrev sTs : List TypeId := [25, 22, 23, 5, 9]
theorem sts_ok : okT Tryz.prog sTs = true := by kernel_rfl
end Go.Vm
