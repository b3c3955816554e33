/- How great a term is: by the program. -/
import Derived.Test.YtlholbhaajklhaaGreatDoorRzG
import Derived.Test.YtlholbhaajklhaaGreatDoorRz0
namespace Go.Vm
open Go Go.Proofs Go.Pa
attribute [local simp] OkG Qf Qs OkD J3 Qe JL Je Jk vop Jq Jx ev evs toV Jj Fr.dsTo Fr.glTo Fr.toNone Jg Jh Ji J7 QI Jc JF Jt V.undef JX JQ Qg J8 J9 Qa Qh Qi JT Qb Qj Qc JR Qk JE Jw Jy JD JG Ju JS JW JK Ql
def Jne (t : Tw) (r : Int) : Prop := 1 ≤ r ∧ r ≤ 1000 * (t.nodes : Int) ∧ (r ≤ 200 → t.small ∧ (t.nodes : Int) ≤ r)
def Jkj (t : Tw) (v : V) : Prop := ∃ r : Int, v = .int .i64 r ∧ Jne t r
theorem Jl2 {p : Tw → Prop} {l : List Tw} {i : Nat} (h : ∀ j (h : j < l.length), j < i → p l[j]) (hi : l.length ≤ i) : ∀ t ∈ l, p t := fun t ht => by
 obtain ⟨j, hj, rfl⟩ := List.getElem_of_mem ht
 exact h j hj (by omega)
theorem Jgz {p : S → Prop} {l : List S} {i : Nat} (h : ∀ j (h : j < l.length), j < i → p l[j]) (hi : l.length ≤ i) : ∀ t ∈ l, p t := fun t ht => by
 obtain ⟨j, hj, rfl⟩ := List.getElem_of_mem ht
 exact h j hj (by omega)
theorem JeP : ∀ {kids : List Tw}, (∀ t ∈ kids, t.nodes ≤ vtots t.cells) → QC kids ≤ vtots (kids.flatMap Tw.cells)
 | [], _ => by simp [QC]
 | t :: r, h => by
  have h1 := h t (by simp)
  have h2 := JeP (kids := r) fun u hu => h u (by simp [hu])
  rw [List.flatMap_cons, JaP, QC]; omega
theorem Jjc {kv : V} {kids : List Tw} (h : Row Tw.cells kv kids) : vtots (kids.flatMap Tw.cells) + 1 ≤ Ja0 kv + 1 ∧ kids.length * 6 ≤ Ja0 kv := by
 have := JbJ (f := Tw.cells) kids (fun t _ => t.len6)
 cases h with
 | nils => simp [Ja0, vtots]
 | sl l ex => exact ⟨Nat.le_succ _, by show _ ≤ vtots _ + 1; omega⟩
theorem Jhv {nv : V} {names : List S} (h : Row sC nv names) : names.length ≤ Ja0 nv := by
 have := JbJ (f := sC) (z := 1) names (fun _ _ => rfl)
 cases h with
 | nils => simp [Ja0]
 | sl l ex => show _ ≤ vtots _ + 1; omega
theorem Jnf {t : Tw} (hok : t.ok) : t.nodes ≤ vtots t.cells := by
 induction hok with
 | mk ref kind text base nv names kv kids hk hn hkv hks ih =>
  have h1 := JeP ih
  have h2 := (Jjc hkv).1
  have h3 := Ji2 nv
  simp only [Tw.cells, vtots, Ja0, Tw.nodes]
  omega
theorem Jv (s : S) : QY Tryz.prog 9 (.str s) = some (.int .i64 (s.n : Int)) := by simp only [QY, Tryz.underlying9]; rfl
variable [Memo] [NY]
def Jng [Memo] (gl : Gl) (t : Tw) : Prop := ∀ st : St, Says Tryz.prog gl 21 [.agg t.cells] st fun v st' => Jkj t v ∧ Keep st st'
set_option maxHeartbeats 4000000 in
set_option maxRecDepth 100000 in
theorem Jkk (gl : Gl) (st : St) (ref : Int) (kind : Nat) (text : S) (base : Int) (nv : V) (names : List S) (kv : V) (kids : List Tw) (hk : kind < 256) (hn : Row sC nv names) (hkv : Row Tw.cells kv kids) (hks : ∀ t ∈ kids, t.ok) (htx : text.n ≤ 1000000000000) (hnl : names.length ≤ 1000000000000) (hkl : kids.length ≤ 1000000000000) (hnd : QC kids ≤ 1000000000000) (ih : ∀ t ∈ kids, Jng gl t) :
  Says Tryz.prog gl 21 [.agg (Tw.mk ref kind text base nv names kv kids).cells] st (fun v st' => Jkj (Tw.mk ref kind text base nv names kv kids) v ∧ Keep st st') := by
 refine QD (NY.no _ rfl rfl rfl _ _) Tryz.func21 rfl (by kernel_rfl) fun R hR K gr gn => ?_
 generalize hfr : JH gl [.agg (Tw.mk ref kind text base nv names kv kids).cells] = fr
 have hF : Fs gl [(0, .agg (Tw.mk ref kind text base nv names kv kids).cells)] fr := by subst hfr; simp [Fs]
 simp only [Fs] at hF
 clear hfr
 have ho := Tw.ones (Tw.ok.mk ref kind text base nv names kv kids hk hn hkv hks)
 have kq := Qz st (Tw.mk ref kind text base nv names kv kids).cells 26
 have hb := Jaa st (Tw.mk ref kind text base nv names kv kids).cells 26
 have hT := TwBox.new (st := st) (s := Tw.mk ref kind text base nv names kv kids)
 generalize Jao st (Tw.mk ref kind text base nv names kv kids).cells 26 = q at kq hb hT
 have l2 := hT.ld.l2
 have l4 := hT.ld.l4
 have l5 := hT.ld.l5
 have ln := hn.len Tryz.underlying23
 have lk := hkv.len Tryz.underlying24
 have hnn : (Tw.mk ref kind text base nv names kv kids).nodes = QC kids + 1 := by simp only [Tw.nodes]
 have hbig : Jkj (Tw.mk ref kind text base nv names kv kids) (.int .i64 1000) := ⟨1000, rfl, by omega, by rw [hnn]; omega, fun h => by omega⟩
 obtain ⟨d, hd⟩ : ∃ d : Nat, d = text.n / 100 := ⟨_, rfl⟩
 have eq1 : ∀ kk, Jf Tryz.prog kk .quo 3 (.int .i64 (text.n : Int)) (.int .i64 100) = some (.int .i64 (d : Int)) := fun kk => by
  rw [JiL (by omega), Int.tdiv_eq_ediv_of_nonneg (by omega), Ju (by omega) (by omega), show (text.n : Int) / 100 = (d : Int) by omega]
 have gt1 : ∀ kk, Jf Tryz.prog kk .gtr 3 (.int .i64 (text.n : Int)) (.int .i64 5000) = some (.bool (decide (5000 < text.n))) := fun kk => JR
 have gt2 : ∀ kk, Jf Tryz.prog kk .gtr 3 (.int .i64 (names.length : Int)) (.int .i64 200) = some (.bool (decide (200 < names.length))) := fun kk => JR
 have gt3 : ∀ kk, Jf Tryz.prog kk .gtr 3 (.int .i64 (kids.length : Int)) (.int .i64 200) = some (.bool (decide (200 < kids.length))) := fun kk => JR
 obtain ⟨A, hA⟩ : ∃ b, decide (5000 < text.n) = b := ⟨_, rfl⟩
 obtain ⟨B, hB⟩ : ∃ b, decide (200 < names.length) = b := ⟨_, rfl⟩
 obtain ⟨C, hC⟩ : ∃ b, decide (200 < kids.length) = b := ⟨_, rfl⟩
 rw [hA] at gt1
 rw [hB] at gt2
 rw [hC] at gt3
 refine Ks_ (Ka_ (gs := [none, none]) fun K1 gK => ?_)
 simp (disch := omega) [hF, Ja, ho, hb]
 refine gK _ _ (Ks_ (Ka_ (gs := [none, none, none, none, none, none]) fun K1 gK => ?_))
 simp (disch := omega) [Jv, gT2, l2, eq1]
 refine gK _ _ (Ks_ (Ks_ (Ka_ (gs := [none, none, none, none, none, some (some 15, false), some (some 15, false), some (some 15, false), some (some 15, false), none, none, some (some 21, false), some (some 21, false), some (some 21, false), some (some 21, false), none]) fun K1 gK => ?_)))
 refine OkG.cutK 10 (fun fr st' => Fs gl [(1, .ptr st.ctr 0), (3, .int .i64 (1 + (d : Int))), (20, .bool (A || B))] fr ∧ q = st') (by kernel_rfl) ?_ ?_
 ·as_aux_lemma =>
  intro Kc gKc
  simp only [List.take]
  cases A with
  | true =>
   simp (disch := omega) [Jv, gT2, l2, gt1]
   exact gKc _ _ ⟨by simp [Fs, hF], rfl⟩
  | false =>
   simp (disch := omega) [Jv, gT2, gT4, l2, l4, ln, gt1, gt2]
   exact gKc _ _ ⟨by simp [Fs, hF], rfl⟩
 ·as_aux_lemma =>
  clear hF
  rintro fr st' ⟨hF, rfl⟩
  simp only [Fs] at hF
  simp only [List.drop]
  obtain ⟨B1, hB1⟩ : ∃ b, (A || B) = b := ⟨_, rfl⟩
  rw [hB1] at hF
  cases B1 with
  | true =>
   simp (disch := omega) [hF]
   refine gK _ _ (Kt_ (by simp (disch := omega) []) (Ks_ (Ka_ (gs := [none]) fun K1 gK => ?_)))
   simp (disch := omega) []
   refine gK _ _ (Kq_ (gr _ _ ?_))
   simp [JM, Tryz.f21, hF]
   refine hR _ _ ?_
   exact ⟨hbig, kq⟩
  | false =>
   cases C with
   | true =>
    simp (disch := omega) [hF, gT5, l5, lk, gt3]
    refine gK _ _ (Kt_ (by simp (disch := omega) []) (Ks_ (Ka_ (gs := [none]) fun K1 gK => ?_)))
    simp (disch := omega) []
    refine gK _ _ (Kq_ (gr _ _ ?_))
    simp [JM, Tryz.f21, hF]
    refine hR _ _ ?_
    exact ⟨hbig, kq⟩
   | false =>
    have hAB : A = false ∧ B = false := by cases A <;> cases B <;> simp at hB1 ⊢
    rw [hAB.1] at hA
    rw [hAB.2] at hB
    have hA' : text.n ≤ 5000 := by have := of_decide_eq_false hA; omega
    have hB' : names.length ≤ 200 := by have := of_decide_eq_false hB; omega
    have hC' : kids.length ≤ 200 := by have := of_decide_eq_false hC; omega
    clear hA hB hC
    simp (disch := omega) [hF, gT5, l5, lk, gt3]
    refine gK _ _ (Kf_ (by simp (disch := omega) []) (Kk_ (Ks_ (Ks_ (Ka_ (gs := [none]) fun K1 gK => ?_)))))
    simp (disch := omega) []
    refine gK _ _ ?_
    refine Kl_ (names.length) (fun i fr st' => Fs gl [(1, .ptr st.ctr 0), (3, .int .i64 (1 + (d : Int))), (4, .int .i64 (i : Int))] fr ∧ i ≤ names.length ∧ (∀ j (h : j < names.length), j < i → names[j].n ≤ 300) ∧ q = st') (0) (fun fr st' => Fs gl [(1, .ptr st.ctr 0), (3, .int .i64 (1 + (d : Int)))] fr ∧ (∀ s ∈ names, s.n ≤ 300) ∧ q = st') ?_ ?_ ?_ ?_
    ·exact ⟨by simp [Fs, hF], Nat.zero_le _, fun j _ hj => absurd hj (Nat.not_lt_zero j), rfl⟩
    ·rintro i fr st' ⟨_, hi, hN, rfl⟩
     omega
    ·as_aux_lemma =>
     clear hF
     rintro i fr st' ⟨hF, hi, hN, rfl⟩ K1 gk1 gx1 go1
     simp only [Fs] at hF
     have gr1 := fun fr st h => go1 AE.ret fr st trivial (gr fr st h)
     have m4 := hT.ld.l4
     refine Ks_ (Ks_ (Ka_ (gs := [none, none, none, none, none]) fun K1 gK => ?_))
     simp (disch := omega) [hF, gT4, ln, m4]
     refine gK _ _ ?_
     by_cases hlt : i < names.length
     ·
      refine Kt_ (by simp (disch := omega) [hlt]) ?_
      have hxi := (hn.vw q).ix Tryz.underlying23 z9 (k := .i64) (a := (i : Int)) (by omega) (by omega)
      have hxd := (hn.vw q).ld z9 a9 hlt
      refine Kk_ (Ks_ ?_)
      refine Kb_ fun K2 gn2 gx2 go2 => ?_
      have gr2 := fun fr st h => go2 AE.ret fr st trivial (gr1 fr st h)
      refine Ks_ (Ka_ (gs := [none, none, none, none, none, none, none]) fun K1 gK => ?_)
      simp (disch := omega) [hF, Jv, gT4, m4, hlt, hxi, hxd]
      refine gK _ _ ?_
      by_cases h3 : 300 < names[i].n
      ·
       refine Kt_ (by simp (disch := omega) [h3]) (Ks_ (Ka_ (gs := [none]) fun K1 gK => ?_))
       simp (disch := omega) [h3]
       refine gK _ _ (Kq_ (gr2 _ _ ?_))
       simp [JM, Tryz.f21, hF]
       refine hR _ _ ?_
       exact ⟨hbig, kq⟩
      ·
       refine Kf_ (by simp (disch := omega) [h3]) (Kk_ (gn2 _ _ (Ka_ (gs := [none, none, none]) fun K1 gK => ?_)))
       simp (disch := omega) [hF, h3]
       refine gK _ _ ?_
       refine gk1 (i + 1) _ _ (by omega) ⟨by simp [Fs, hF], by omega, fun j hj hji => by by_cases he : j = i; (subst he; omega); exact hN j hj (by omega), rfl⟩
     ·
      refine Kf_ (by simp (disch := omega) [hlt]) ?_
      exact Kx_ (gx1 _ _ ⟨by simp [Fs, hF, hlt], Jgz hN (by omega), rfl⟩)
    ·as_aux_lemma =>
     clear hF
     rintro fr st' ⟨hF, hN, rfl⟩
     simp only [Fs] at hF
     refine Ks_ (Ks_ (Ka_ (gs := [none]) fun K1 gK => ?_))
     simp (disch := omega) []
     refine gK _ _ ?_
     refine Kl_ (kids.length) (fun i fr st' => ∃ (r : Int), Fs gl [(1, .ptr st.ctr 0), (3, .int .i64 r), (5, .int .i64 (i : Int))] fr ∧ i ≤ kids.length ∧ (1 ≤ r ∧ r ≤ 1000 * (QC (kids.take i) : Int) + 1000) ∧ (r ≤ 200 → (∀ j (h : j < kids.length), j < i → kids[j].small) ∧ (QC (kids.take i) : Int) + 1 ≤ r) ∧ Keep q st') (0) (fun fr st' => ∃ (r : Int), Fs gl [(3, .int .i64 r)] fr ∧ Jne (Tw.mk ref kind text base nv names kv kids) r ∧ Keep q st') ?_ ?_ ?_ ?_
     ·exact ⟨1 + (d : Int), by simp [Fs, hF], Nat.zero_le _, by (constructor <;> omega), fun _ => ⟨fun j _ hj => absurd hj (Nat.not_lt_zero j), by simp [QC]; omega⟩, .refl _⟩
     ·rintro i fr st' ⟨r, _, hi, hr, hS, hkq⟩
      omega
     ·as_aux_lemma =>
      clear hF
      rintro i fr st' ⟨r, hF, hi, hr, hS, hkq⟩ K3 gk3 gx3 go3
      simp only [Fs] at hF
      have hT1 := hT.keep hkq
      have m5 := hT1.ld.l5
      have htk := Jdg kids i
      have gr : ∀ kk, Jf Tryz.prog kk .leq 3 (.int .i64 r) (.int .i64 200) = some (.bool (decide (r ≤ 200))) := fun kk => JaU
      have gi : ∀ kk, Jf Tryz.prog kk .lss 3 (.int .i64 (i : Int)) (.int .i64 (kids.length : Int)) = some (.bool (decide (i < kids.length))) := fun kk => J9
      obtain ⟨D0, hD0⟩ : ∃ b, decide (i < kids.length) = b := ⟨_, rfl⟩
      rw [hD0] at gi
      cases D0 with
      | true =>
       have hlt : i < kids.length := of_decide_eq_true hD0
       refine Ks_ (Ks_ (Ka_ (gs := [none, none, none, none, none, none, some (some 46, true), some (some 46, true), none]) fun K1 gK => ?_))
       simp (disch := omega) [hF, gT5, lk, m5, gr, gi]
       refine gK _ _ ?_
       by_cases h200 : r ≤ 200
       ·
        refine Kt_ (by simp (disch := omega) [h200]) ?_
        have hix := hkv.ix (fun t _ => t.len6) Tryz.underlying24 JhJ (k := .i64) (a := (i : Int)) (by omega) (by omega)
        have hld := fun st => Jmj (st := st) hlt
        obtain ⟨v, s1, hc, ⟨r1, rfl, hr1⟩, hk1⟩ := Says.use (ih _ (List.getElem_mem hlt) st')
        obtain ⟨p1, p2, p3⟩ := hr1
        have htk1 := JcT kids i hlt
        have htk2 := Jdg kids (i + 1)
        refine Kk_ (Ks_ ?_)
        refine Kb_ fun K4 gn4 gx4 go4 => ?_
        refine Ka_ (gs := [none, none, none, none, none, none, none, none, none]) fun K1 gK => ?_
        simp (disch := omega) [hF, gT5, m5, h200, hix, hld, hc]
        refine gK _ _ (gn4 _ _ (Ka_ (gs := [none, none, none]) fun K1 gK => ?_))
        simp (disch := omega) [hF]
        refine gK _ _ ?_
        refine gk3 (i + 1) _ _ (by omega) ⟨r + r1, by simp [Fs, hF], by omega, by (constructor <;> omega), fun h => by (obtain ⟨s1, s2⟩ := hS h200; obtain ⟨s3, s4⟩ := p3 (by omega); exact ⟨fun j hj hji => by by_cases he : j = i; (subst he; exact s3); exact s1 j hj (by omega), by omega⟩), hkq.trans hk1⟩
       ·
        refine Kf_ (by simp (disch := omega) [h200]) ?_
        exact Kx_ (gx3 _ _ ⟨r, by simp [Fs, hF, h200], ⟨hr.1, by rw [hnn]; omega, fun h => absurd h h200⟩, hkq⟩)
      | false =>
       have hge : kids.length ≤ i := by have := of_decide_eq_false hD0; omega
       rw [List.take_of_length_le hge] at hS hr
       refine Ks_ (Ks_ (Ka_ (gs := [none, none, none, none, none, none, some (some 46, true), some (some 46, true), none]) fun K1 gK => ?_))
       simp (disch := omega) [hF, gT5, lk, m5, gi]
       refine gK _ _ (Kf_ (by simp (disch := omega) []) ?_)
       exact Kx_ (gx3 _ _ ⟨r, by simp [Fs, hF], ⟨hr.1, by rw [hnn]; omega, fun h => ⟨.mk _ _ _ _ _ _ _ _ hA' hB' hN hC' (Jl2 (hS h).1 hge), by rw [hnn]; have := (hS h).2; omega⟩⟩, hkq⟩)
     ·as_aux_lemma =>
      clear hF
      rintro fr st' ⟨r, hF, hr, hkq⟩
      simp only [Fs] at hF
      refine Ks_ (Ka_ (gs := [none, none]) fun K1 gK => ?_)
      simp (disch := omega) [hF]
      refine gK _ _ (Kq_ (gr _ _ ?_))
      simp [JM, Tryz.f21, hF]
      refine hR _ _ ?_
      exact ⟨⟨r, rfl, hr⟩, kq.trans hkq⟩
theorem Jnh (gl : Gl) {t : Tw} (hok : t.ok) : vtots t.cells ≤ 1000000000 → Jng gl t := by
 induction hok with
 | mk ref kind text base nv names kv kids hk hn hkv hks ih =>
  intro hsz st
  have h1 := JeP (kids := kids) fun t ht => Jnf (hks t ht)
  obtain ⟨h2, h3⟩ := Jjc hkv
  have h4 := Jhv hn
  simp only [Tw.cells, vtots, Ja0] at hsz
  refine Jkk gl st ref kind text base nv names kv kids hk hn hkv hks (by omega) (by omega) (by omega) (by omega) fun t ht => ih t ht ?_
  have := JeK (f := Tw.cells) ht
  omega
end Go.Vm
namespace Go.Vm
open Go Go.Proofs Go.Pa
attribute [local simp] OkG Qf Qs OkD J3 Qe JL Je Jk vop Jq Jx ev evs toV Jj Fr.dsTo Fr.glTo Fr.toNone Jg Jh Ji J7 QI Jc JF Jt V.undef JX JQ Qg J8 J9 Qa Qh Qi JT Qb Qj Qc JR Qk JE Jw Jy JD JG Ju JS JW JK Ql
def JoE (s : Sw) (v : V) : Prop := ∃ b : Bool, v = .bool b ∧ (b = false → s.small)
theorem Jkl {fv : V} {facts : List Fw} (h : Row Fw.cells fv facts) : facts.length * 6 ≤ Ja0 fv := by
 have := JbJ (f := Fw.cells) facts (fun t _ => t.len6)
 cases h with
 | nils => simp [Ja0]
 | sl l ex => show _ ≤ vtots _ + 1; omega
theorem Jl3 {fv : V} {facts : List Fw} (h : Row Fw.cells fv facts) (hok : ∀ f ∈ facts, f.ok) {f : Fw} (hf : f ∈ facts) : f.names.length ≤ Ja0 fv ∧ f.kids.length ≤ Ja0 fv := by
 have h1 := JeK (f := Fw.cells) hf
 have h2 := Jhv (hok f hf).names
 have h3 : f.kids.length ≤ Ja0 f.kv := by
  have h4 := JbJ (f := iC) (z := 1) f.kids (fun _ _ => rfl)
  have h5 := (hok f hf).kids
  revert h4 h5
  generalize f.kids = l
  generalize f.kv = x
  intro h4 h5
  cases h5 with
  | nils => simp [Ja0]
  | sl l ex => show _ ≤ vtots _ + 1; omega
 cases h with
 | nils => cases hf
 | sl l ex =>
  have e : Ja0 (.sl facts.length (facts.flatMap Fw.cells) ex) = vtots (facts.flatMap Fw.cells) + 1 := rfl
  simp only [Fw.cells, vtots, Ja0] at h1
  simp only [e] at h1 e ⊢
  constructor <;> omega
variable [Memo] [NY]
set_option maxHeartbeats 4000000 in
set_option maxRecDepth 100000 in
theorem Jjd (gl : Gl) (st : St) (s : Sw) (hok : s.ok) (hsz : vtots s.cells ≤ 100000000) :
  Says Tryz.prog gl 7 [.agg s.cells] st (fun v st' => JoE s v ∧ Keep st st') := by
 refine QD (NY.no _ rfl rfl rfl _ _) Tryz.func7 rfl (by kernel_rfl) fun R hR K gr gn => ?_
 generalize hfr : JH gl [.agg s.cells] = fr
 have hF : Fs gl [(0, .agg s.cells)] fr := by subst hfr; simp [Fs]
 simp only [Fs] at hF
 clear hfr
 have ho := Sw.ones hok
 have kq := Qz st s.cells 28
 have hb := Jaa st s.cells 28
 have hT := SwBox.new (st := st) (s := s)
 generalize Jao st s.cells 28 = q at kq hb hT
 have hbig : JoE s (.bool true) := ⟨true, rfl, fun h => by cases h⟩
 have vz : Ja0 s.fv + (vtots s.tree.cells + (s.why.n + (s.out.n + s.err.n))) ≤ 100000000 := by
  simp only [Sw.cells, vtots, JaP, Ja0] at hsz
  omega
 have vzf := Jkl hok.fv
 have lx := hok.fv.len Tryz.underlying22
 have l0 := hT.ld.l0
 have l1 := hT.ld.l1
 have l3 := hT.ld.l3
 have l5 := hT.ld.l5
 have l6 := hT.ld.l6
 obtain ⟨v, s1, hc, ⟨r, rfl, hr⟩, hk1⟩ := Says.use (Jnh gl hok.tree (by omega) q)
 have gt1 : ∀ kk, Jf Tryz.prog kk .gtr 3 (.int .i64 (s.facts.length : Int)) (.int .i64 50) = some (.bool (decide (50 < s.facts.length))) := fun kk => JR
 have gt2 : ∀ kk, Jf Tryz.prog kk .gtr 3 (.int .i64 (s.why.n : Int)) (.int .i64 1000) = some (.bool (decide (1000 < s.why.n))) := fun kk => JR
 have gt3 : ∀ kk, Jf Tryz.prog kk .gtr 3 (.int .i64 (s.out.n : Int)) (.int .i64 3000) = some (.bool (decide (3000 < s.out.n))) := fun kk => JR
 have gt4 : ∀ kk, Jf Tryz.prog kk .gtr 3 (.int .i64 (s.err.n : Int)) (.int .i64 3000) = some (.bool (decide (3000 < s.err.n))) := fun kk => JR
 have gt5 : ∀ kk, Jf Tryz.prog kk .gtr 3 (.int .i64 r) (.int .i64 200) = some (.bool (decide (200 < r))) := fun kk => JcU
 obtain ⟨A, hA⟩ : ∃ b, decide (50 < s.facts.length) = b := ⟨_, rfl⟩
 obtain ⟨B, hB⟩ : ∃ b, decide (1000 < s.why.n) = b := ⟨_, rfl⟩
 obtain ⟨C, hC⟩ : ∃ b, decide (3000 < s.out.n) = b := ⟨_, rfl⟩
 obtain ⟨D, hD⟩ : ∃ b, decide (3000 < s.err.n) = b := ⟨_, rfl⟩
 obtain ⟨E, hE⟩ : ∃ b, decide (200 < r) = b := ⟨_, rfl⟩
 rw [hA] at gt1
 rw [hB] at gt2
 rw [hC] at gt3
 rw [hD] at gt4
 rw [hE] at gt5
 refine Ks_ (Ka_ (gs := [none, none]) fun K1 gK => ?_)
 simp (disch := omega) [hF, Ja, ho, hb]
 refine gK _ _ (Ks_ (Ks_ (Ka_ (gs := [none, none, none, none, none, some (some 9, false), some (some 9, false), some (some 9, false), some (some 9, false), none, none, some (some 15, false), some (some 15, false), some (some 15, false), some (some 15, false), none, none, some (some 21, false), some (some 21, false), some (some 21, false), some (some 21, false), none, none, some (some 27, false), some (some 27, false), some (some 27, false), some (some 27, false), none]) fun K1 gK => ?_)))
 refine OkG.cutK 10 (fun fr st' => Fs gl [(1, .ptr st.ctr 0), (14, .bool (A || B))] fr ∧ q = st') (by kernel_rfl) ?_ ?_
 ·as_aux_lemma =>
  intro Kc gKc
  simp only [List.take]
  cases A with
  | true =>
   simp (disch := omega) [gS0, l0, lx, gt1]
   exact gKc _ _ ⟨by simp [Fs, hF], rfl⟩
  | false =>
   simp (disch := omega) [Jv, gS0, gS3, l0, l3, lx, gt1, gt2]
   exact gKc _ _ ⟨by simp [Fs, hF], rfl⟩
 ·as_aux_lemma =>
  clear hF
  rintro fr st' ⟨hF, rfl⟩
  simp only [Fs] at hF
  simp only [List.drop]
  obtain ⟨B1, hB1⟩ : ∃ b, (A || B) = b := ⟨_, rfl⟩
  rw [hB1] at hF
  refine OkG.cutK 6 (fun fr st' => Fs gl [(1, .ptr st.ctr 0), (20, .bool (B1 || C))] fr ∧ q = st') (by kernel_rfl) ?_ ?_
  ·as_aux_lemma =>
   intro Kc gKc
   simp only [List.take]
   cases B1 with
   | true =>
    simp (disch := omega) [hF]
    exact gKc _ _ ⟨by simp [Fs, hF], rfl⟩
   | false =>
    simp (disch := omega) [hF, Jv, gS5, l5, gt3]
    exact gKc _ _ ⟨by simp [Fs, hF], rfl⟩
  ·as_aux_lemma =>
   clear hF
   rintro fr st' ⟨hF, rfl⟩
   simp only [Fs] at hF
   simp only [List.drop]
   obtain ⟨B2, hB2⟩ : ∃ b, (B1 || C) = b := ⟨_, rfl⟩
   rw [hB2] at hF
   refine OkG.cutK 6 (fun fr st' => Fs gl [(1, .ptr st.ctr 0), (26, .bool (B2 || D))] fr ∧ q = st') (by kernel_rfl) ?_ ?_
   ·as_aux_lemma =>
    intro Kc gKc
    simp only [List.take]
    cases B2 with
    | true =>
     simp (disch := omega) [hF]
     exact gKc _ _ ⟨by simp [Fs, hF], rfl⟩
    | false =>
     simp (disch := omega) [hF, Jv, gS6, l6, gt4]
     exact gKc _ _ ⟨by simp [Fs, hF], rfl⟩
   ·as_aux_lemma =>
    clear hF
    rintro fr st' ⟨hF, rfl⟩
    simp only [Fs] at hF
    simp only [List.drop]
    obtain ⟨B3, hB3⟩ : ∃ b, (B2 || D) = b := ⟨_, rfl⟩
    rw [hB3] at hF
    cases B3 with
    | true =>
     simp (disch := omega) [hF]
     refine gK _ _ (Kt_ (by simp (disch := omega) []) (Ks_ (Ka_ (gs := [none]) fun K1 gK => ?_)))
     simp (disch := omega) []
     refine gK _ _ (Kq_ (gr _ _ ?_))
     simp [JM, Tryz.f7, hF]
     refine hR _ _ ?_
     exact ⟨hbig, kq⟩
    | false =>
     cases E with
     | true =>
      simp (disch := omega) [hF, gS1, l1, hc, gt5]
      refine gK _ _ (Kt_ (by simp (disch := omega) []) (Ks_ (Ka_ (gs := [none]) fun K1 gK => ?_)))
      simp (disch := omega) []
      refine gK _ _ (Kq_ (gr _ _ ?_))
      simp [JM, Tryz.f7, hF]
      refine hR _ _ ?_
      exact ⟨hbig, kq.trans hk1⟩
     | false =>
      have hAB : A = false ∧ B = false ∧ C = false ∧ D = false := by revert hB1 hB2 hB3; cases A <;> cases B <;> cases C <;> cases D <;> cases B1 <;> cases B2 <;> simp
      rw [hAB.1] at hA
      rw [hAB.2.1] at hB
      rw [hAB.2.2.1] at hC
      rw [hAB.2.2.2] at hD
      have hA' : s.facts.length ≤ 50 := by have := of_decide_eq_false hA; omega
      have hB' : s.why.n ≤ 1000 := by have := of_decide_eq_false hB; omega
      have hC' : s.out.n ≤ 3000 := by have := of_decide_eq_false hC; omega
      have hD' : s.err.n ≤ 3000 := by have := of_decide_eq_false hD; omega
      have hE' : r ≤ 200 := by have := of_decide_eq_false hE; omega
      obtain ⟨htr, hnd⟩ := hr.2.2 hE'
      have hT1 := hT.keep hk1
      have m0 := hT1.ld.l0
      clear hA hB hC hD hE
      simp (disch := omega) [hF, gS1, l1, hc, gt5]
      refine gK _ _ (Kf_ (by simp (disch := omega) []) (Kk_ (Ks_ (Ks_ (Ka_ (gs := [none]) fun K1 gK => ?_)))))
      simp (disch := omega) []
      refine gK _ _ ?_
      refine Kl_ (s.facts.length) (fun i fr st' => Fs gl [(1, .ptr st.ctr 0), (3, .int .i64 (i : Int))] fr ∧ i ≤ s.facts.length ∧ (∀ j (h : j < s.facts.length), j < i → s.facts[j].small) ∧ s1 = st') (0) (fun fr st' => Fs gl [] fr ∧ (∀ f ∈ s.facts, f.small) ∧ s1 = st') ?_ ?_ ?_ ?_
      ·exact ⟨by simp [Fs, hF], Nat.zero_le _, fun j _ hj => absurd hj (Nat.not_lt_zero j), rfl⟩
      ·rintro i fr st' ⟨_, hi, hN, rfl⟩
       omega
      ·as_aux_lemma =>
       clear hF
       rintro i fr st' ⟨hF, hi, hN, rfl⟩ K1 gk1 gx1 go1
       simp only [Fs] at hF
       have gr1 := fun fr st h => go1 AE.ret fr st trivial (gr fr st h)
       refine Ks_ (Ks_ (Ka_ (gs := [none, none, none, none, none]) fun K1 gK => ?_))
       simp (disch := omega) [hF, gS0, lx, m0]
       refine gK _ _ ?_
       by_cases hlt : i < s.facts.length
       ·
        refine Kt_ (by simp (disch := omega) [hlt]) ?_
        have hfk := hok.facts _ (List.getElem_mem hlt)
        have hvk := Jl3 hok.fv hok.facts (List.getElem_mem hlt)
        have hxi := hok.fv.ix (fun f _ => f.len6) Tryz.underlying22 z38 (k := .i64) (a := (i : Int)) (by omega) (by omega)
        have n2 : ∀ st, Jz Tryz.prog st 23 (.cp ((Jed Fw.cells s.facts i).drop 2)) = some s.facts[i].nv := fun st => by rw [JbS hlt]; simp only [Jz, QQ, a23, z23]; rfl
        have n3 : ∀ st, Jz Tryz.prog st 45 (.cp ((Jed Fw.cells s.facts i).drop 3)) = some s.facts[i].kv := fun st => by rw [JbS hlt]; simp only [Jz, QQ, a36, z36]; rfl
        have ln := hfk.names.len Tryz.underlying23
        have lk := hfk.kids.len Tryz.underlying45
        have gt1 : ∀ kk, Jf Tryz.prog kk .gtr 3 (.int .i64 (s.facts[i].names.length : Int)) (.int .i64 50) = some (.bool (decide (50 < s.facts[i].names.length))) := fun kk => JR
        have gt2 : ∀ kk, Jf Tryz.prog kk .gtr 3 (.int .i64 (s.facts[i].kids.length : Int)) (.int .i64 50) = some (.bool (decide (50 < s.facts[i].kids.length))) := fun kk => JR
        obtain ⟨A, hA⟩ : ∃ b, decide (50 < s.facts[i].names.length) = b := ⟨_, rfl⟩
        obtain ⟨B, hB⟩ : ∃ b, decide (50 < s.facts[i].kids.length) = b := ⟨_, rfl⟩
        rw [hA] at gt1
        rw [hB] at gt2
        refine Kk_ (Ks_ ?_)
        refine Kb_ fun K2 gn2 gx2 go2 => ?_
        have gr2 := fun fr st h => go2 AE.ret fr st trivial (gr1 fr st h)
        refine Ks_ (Ks_ (Ka_ (gs := [none, none, none, none, none, none, none, none, none, some (some 48, false), some (some 48, false), some (some 48, false), some (some 48, false), some (some 48, false), some (some 48, false), some (some 48, false), some (some 48, false), none]) fun K1 gK => ?_))
        refine OkG.cutK 8 (fun fr st' => Fs gl [(1, .ptr st.ctr 0), (3, .int .i64 (i : Int)), (47, .bool A)] fr ∧ s1 = st') (by kernel_rfl) ?_ ?_
        ·as_aux_lemma =>
         intro Kc gKc
         simp only [List.take]
         simp (disch := omega) [hF, gS0, m0, hlt, hxi, n2, ln, gt1, Q6]
         exact gKc _ _ ⟨by simp [Fs, hF], rfl⟩
        ·as_aux_lemma =>
         clear hF
         rintro fr st' ⟨hF, rfl⟩
         simp only [Fs] at hF
         simp only [List.drop]
         cases A with
         | true =>
          simp (disch := omega) [hF]
          refine gK _ _ (Kt_ (by simp (disch := omega) []) (Ks_ (Ka_ (gs := [none]) fun K1 gK => ?_)))
          simp (disch := omega) []
          refine gK _ _ (Kq_ (gr2 _ _ ?_))
          simp [JM, Tryz.f7, hF]
          refine hR _ _ ?_
          exact ⟨hbig, kq.trans hk1⟩
         | false =>
          cases B with
          | true =>
           simp (disch := omega) [hF, gS0, m0, hxi, n3, lk, gt2, Jbh]
           refine gK _ _ (Kt_ (by simp (disch := omega) []) (Ks_ (Ka_ (gs := [none]) fun K1 gK => ?_)))
           simp (disch := omega) []
           refine gK _ _ (Kq_ (gr2 _ _ ?_))
           simp [JM, Tryz.f7, hF]
           refine hR _ _ ?_
           exact ⟨hbig, kq.trans hk1⟩
          | false =>
           have hA1 : s.facts[i].names.length ≤ 50 := by have := of_decide_eq_false hA; omega
           have hB1 : s.facts[i].kids.length ≤ 50 := by have := of_decide_eq_false hB; omega
           simp (disch := omega) [hF, gS0, m0, hxi, n3, lk, gt2, Jbh]
           refine gK _ _ (Kf_ (by simp (disch := omega) []) (Kk_ (Ks_ (Ka_ (gs := [none]) fun K1 gK => ?_))))
           simp (disch := omega) []
           refine gK _ _ ?_
           refine Kl_ (s.facts[i].names.length) (fun j fr st' => Fs gl [(1, .ptr st.ctr 0), (3, .int .i64 (i : Int)), (4, .int .i64 (j : Int))] fr ∧ j ≤ s.facts[i].names.length ∧ (∀ k (h : k < s.facts[i].names.length), k < j → s.facts[i].names[k].n ≤ 300) ∧ s1 = st') (0) (fun fr st' => Fs gl [(1, .ptr st.ctr 0), (3, .int .i64 (i : Int))] fr ∧ (∀ t ∈ s.facts[i].names, t.n ≤ 300) ∧ s1 = st') ?_ ?_ ?_ ?_
           ·exact ⟨by simp [Fs, hF], Nat.zero_le _, fun j _ hj => absurd hj (Nat.not_lt_zero j), rfl⟩
           ·rintro j fr st' ⟨_, hj, hM, rfl⟩
            omega
           ·as_aux_lemma =>
            clear hF
            rintro j fr st' ⟨hF, hj, hM, rfl⟩ K3 gk3 gx3 go3
            simp only [Fs] at hF
            have gr3 := fun fr st h => go3 AE.ret fr st trivial (gr2 fr st h)
            refine Ks_ (Ks_ (Ka_ (gs := [none, none, none, none, none, none, none, none, none]) fun K1 gK => ?_))
            simp (disch := omega) [hF, gS0, m0, hxi, n2, ln, Q6]
            refine gK _ _ ?_
            by_cases hlj : j < s.facts[i].names.length
            ·
             refine Kt_ (by simp (disch := omega) [hlj]) ?_
             have hyi := (hfk.names.vw s1).ix Tryz.underlying23 z9 (k := .i64) (a := (j : Int)) (by omega) (by omega)
             have hyd := (hfk.names.vw s1).ld z9 a9 hlj
             have gt3 : ∀ kk, Jf Tryz.prog kk .gtr 3 (.int .i64 (s.facts[i].names[j].n : Int)) (.int .i64 300) = some (.bool (decide (300 < s.facts[i].names[j].n))) := fun kk => JR
             refine Kk_ (Ks_ ?_)
             refine Kb_ fun K4 gn4 gx4 go4 => ?_
             have gr4 := fun fr st h => go4 AE.ret fr st trivial (gr3 fr st h)
             refine Ks_ (Ka_ (gs := [none, none, none, none, none, none, none, none, none, none, none]) fun K1 gK => ?_)
             simp (disch := omega) [hF, Jv, gS0, m0, hxi, n2, Q6, hlj, hyi, hyd, gt3]
             refine gK _ _ ?_
             by_cases h3 : 300 < s.facts[i].names[j].n
             ·
              refine Kt_ (by simp (disch := omega) [h3]) (Ks_ (Ka_ (gs := [none]) fun K1 gK => ?_))
              simp (disch := omega) [h3]
              refine gK _ _ (Kq_ (gr4 _ _ ?_))
              simp [JM, Tryz.f7, hF]
              refine hR _ _ ?_
              exact ⟨hbig, kq.trans hk1⟩
             ·
              refine Kf_ (by simp (disch := omega) [h3]) (Kk_ (gn4 _ _ (Ka_ (gs := [none, none, none]) fun K1 gK => ?_)))
              simp (disch := omega) [hF, h3]
              refine gK _ _ ?_
              refine gk3 (j + 1) _ _ (by omega) ⟨by simp [Fs, hF], by omega, fun k hk hki => by by_cases he : k = j; (subst he; omega); exact hM k hk (by omega), rfl⟩
            ·
             refine Kf_ (by simp (disch := omega) [hlj]) ?_
             exact Kx_ (gx3 _ _ ⟨by simp [Fs, hF, hlj], Jgz hM (by omega), rfl⟩)
           ·as_aux_lemma =>
            clear hF
            rintro fr st' ⟨hF, hM, rfl⟩
            simp only [Fs] at hF
            refine gn2 _ _ (Ka_ (gs := [none, none, none]) fun K1 gK => ?_)
            simp (disch := omega) [hF]
            refine gK _ _ ?_
            refine gk1 (i + 1) _ _ (by omega) ⟨by simp [Fs, hF], by omega, fun k hk hki => by by_cases he : k = i; (subst he; exact ⟨by omega, by omega, hM⟩); exact hN k hk (by omega), rfl⟩
       ·
        refine Kf_ (by simp (disch := omega) [hlt]) ?_
        exact Kx_ (gx1 _ _ ⟨by simp [Fs, hF, hlt], (fun f hf => by obtain ⟨k, hk, rfl⟩ := List.getElem_of_mem hf; exact hN k hk (by omega)), rfl⟩)
      ·as_aux_lemma =>
       clear hF
       rintro fr st' ⟨hF, hN, rfl⟩
       simp only [Fs] at hF
       refine Ks_ (Ka_ (gs := [none]) fun K1 gK => ?_)
       simp (disch := omega) []
       refine gK _ _ (Kq_ (gr _ _ ?_))
       simp [JM, Tryz.f7, hF]
       refine hR _ _ ?_
       exact ⟨⟨false, rfl, fun _ => ⟨hA', hN, htr, by omega, hB', hC', hD'⟩⟩, kq.trans hk1⟩
end Go.Vm
namespace Go.Vm
open Go Go.Proofs Go.Pa
attribute [local simp] OkS QL OkG Qf Qs OkD J3 Qe JL Je Jk vop Jq Jx ev evs toV Jj Fr.dsTo Fr.glTo Fr.toNone Jg Jh Ji J7 QI Jc JF Jt V.undef JX JQ Qg J8 J9 Qa Qh Qi JT Qb Qj Qc JR Qk JE Jw Jy JD JG Ju JS JW JK Ql
theorem Jl4 {s : Sw} (hs : s.small) (_hok : s.ok) {M : Bool} (hM : Jdr s = M) {ts : List S} (h : ts.map S.toList = cond M (Jdx s) []) : ts.length ≤ 1000 := by
 have h1 := congrArg List.length h
 rw [List.length_map] at h1
 cases M with
 | false =>
  have h2 : ts.length = 0 := h1
  omega
 | true =>
  obtain ⟨hmf, hmt, _, _⟩ := JbB hM
  have h2 := JdJ s.facts s.tree []
  have h3 := JfP hmf
  have h4 := hs.len
  have h5 := hs.nodes
  have h6 : (JdZ s).length ≤ 2 := by unfold JdZ; cases decide (s.out.n = 0) <;> cases decide (s.err.n = 0) <;> simp
  simp only [cond_true, Jdx, JcO, List.length_cons, List.length_append, List.length_map] at h1
  omega
variable [Memo] [NY] [NZ] [NO] [NA]
end Go.Vm
