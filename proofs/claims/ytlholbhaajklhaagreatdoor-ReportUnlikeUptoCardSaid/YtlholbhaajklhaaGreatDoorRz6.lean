/- The place of a fact: by the program. -/
import Derived.Test.YtlholbhaajklhaaGreatDoorRz5
namespace Go.Vm
open Go Go.Proofs Go.Pa
attribute [local simp] OkG Qf Qs OkD J3 Qe JL Je Jk vop Jq Jx ev evs toV Jj Fr.dsTo Fr.glTo Fr.toNone Jg Jh Ji J7 QI Jc JF Jt V.undef JX JQ Qg J8 J9 Qa Qh Qi JT Qb Qj Qc JR Qk JE Jw Jy JD JG Ju JS JW Jb0 Jb1 Q6 Jbh JdL JdM fg0 fg1 fg2 fg3 fg4 fg5 fh0 fh1 JK Ql Jl Jal Jr
theorem z26 : JU Tryz.prog 31 = some 1 := by kernel_rfl
theorem a26 : QM Tryz.prog 31 = some false := by kernel_rfl
theorem JbF : QZ Tryz.prog 31 = some (.int .i64 0) := by kernel_rfl
theorem Jan : QZ Tryz.prog 23 = some .nils := by kernel_rfl
theorem JcQ : JdT Tryz.prog 78 [] = some (.agg [.int .i64 0, .nils]) := by kernel_rfl
def Jd1 (n : Nat) (s : Option (List S)) (y : Nat × List S) : Option (List S) × Bool := cond (decide (y.1 = n)) (some y.2, false) (s, true)
theorem Jiq {n : Nat} : ∀ (L : List (Nat × List S)), Qm (Jd1 n) none L = match L.find? (fun y => decide (y.1 = n)) with
  | some y => (some y.2, true)
  | none => (none, false)
 | [] => rfl
 | y :: r => by
  rw [Qm, List.find?_cons]
  unfold Jd1
  cases h : decide (y.1 = n) with
  | true => rfl
  | false => simp only [cond_false]; exact Jiq r
theorem JdI {st : St} {T id : Nat} {v w : V} {e : TypeId} {fl : Bool} (hz : JU Tryz.prog T = some 1) (hs : JkB v = true) (hb : st.box.get id = some (.cells [w] e fl (some 0))) : Jaq Tryz.prog st T (.ptr id 0) v = some (st.put id (.cells [v] e fl (some 0))) := by
 rw [JaM hz hb (by simp) hs]; rfl
theorem two {s : St} {a b : Nat} {v w v0 w0 : V} (hab : a ≠ b) (ha : s.box.get a = some (.cells [v0] 23 true (some 0))) (hb : s.box.get b = some (.cells [w0] 31 true (some 0))) (hv : JkB v = true) (hw : JkB w = true) :
  ∃ s2 s3, Jaq Tryz.prog s 23 (.ptr a 0) v = some s2 ∧ Jaq Tryz.prog s2 31 (.ptr b 0) w = some s3 ∧ Jz Tryz.prog s3 23 (.ptr a 0) = some v ∧ Jz Tryz.prog s3 31 (.ptr b 0) = some w ∧ s3.ctr = s.ctr ∧
   s3.box.get a = some (.cells [v] 23 true (some 0)) ∧ s3.box.get b = some (.cells [w] 31 true (some 0)) ∧ ∀ i, i ≠ a → i ≠ b → s3.box.get i = s.box.get i := by
 have h1 := JdI z23 hv ha
 have hb2 : (s.put a (.cells [v] 23 true (some 0))).box.get b = some (.cells [w0] 31 true (some 0)) := by rw [Jm, if_neg (Ne.symm hab)]; exact hb
 have h2 := JdI z26 hw hb2
 have ga : ((s.put a (.cells [v] 23 true (some 0))).put b (.cells [w] 31 true (some 0))).box.get a = some (.cells [v] 23 true (some 0)) := by rw [Jm, if_neg hab, Jm, if_pos rfl]
 have gb : ((s.put a (.cells [v] 23 true (some 0))).put b (.cells [w] 31 true (some 0))).box.get b = some (.cells [w] 31 true (some 0)) := by rw [Jm, if_pos rfl]
 exact ⟨_, _, h1, h2, Jb (off := 0) a23 z23 ga rfl, Jb (off := 0) a26 z26 gb rfl, rfl, ga, gb, fun i h3 h4 => by rw [Jm, if_neg h4, Jm, if_neg h3]⟩
theorem JkM {τ α : Type} {step : τ → α → τ × Bool} : ∀ (L : List α) (s : τ), GoodRun step (fun _ _ => True) s L
 | [], _ => trivial
 | _ :: r, _ => ⟨trivial, fun _ => JkM r _⟩
variable [Memo] [NY]
set_option maxHeartbeats 1000000 in
set_option maxRecDepth 100000 in
theorem JoR (gl : Gl) {aL : List V} (hh : Hits gl aL) (st : St) (x : V) (l : List Fw) (n : Int) (hx : Row Fw.cells x l) (hok : ∀ f ∈ l, f.ok) (hs : ∀ f ∈ l, f.small) (hl : l.length ≤ 60) (hall : ∀ (_hm : MayF l) (m : Nat), m < l.length → ∃ y, (QN l l.length 0 []).find? (fun y => decide (y.1 = m)) = some y ∧ y.2 = QW l m) :
  Says Tryz.prog gl 71 [x, .int .i64 n] st (fun v st' => JmR st.ctr (Jfn l) l n st' v ∧ Keep st st') := by
 refine Ji9 (NY.no _ rfl rfl rfl _ _) Tryz.func71 rfl (by kernel_rfl) fun R hR K gr gn => ?_
 generalize hfr : JH gl [x, .int .i64 n] = fr
 have hF : FsD [] gl [(0, x), (1, .int .i64 n)] fr := by subst hfr; simp [FsD]
 simp only [FsD] at hF
 clear hfr
 obtain ⟨q1, hq1⟩ : ∃ q, q = ((st.new (.cells [.int .i64 n] 3 true (some 0))).new (.cells [.nils] 23 true (some 0))).new (.cells [.int .i64 0] 31 true (some 0)) := ⟨_, rfl⟩
 have kq1 : Keep st q1 := by rw [hq1]; exact (((Keep.refl st).new' _).new' _).new' _
 have cq1 : q1.ctr = st.ctr + 3 := by rw [hq1]; rfl
 have bn1 : q1.box.get st.ctr = some (.cells [.int .i64 n] 3 true (some 0)) := by rw [hq1]; simp only [Js, JY]; simp; try omega
 have br1 : q1.box.get (st.ctr + 1) = some (.cells [.nils] 23 true (some 0)) := by rw [hq1]; simp only [Js, JY]; simp; try omega
 have be1 : q1.box.get (st.ctr + 2) = some (.cells [.int .i64 0] 31 true (some 0)) := by rw [hq1]; simp only [Js, JY]; simp; try omega
 have hfold : ({ ctr := st.ctr + 1 + 1 + 1, box := ((st.box.put st.ctr (.cells [.int .i64 n] 3 true (some 0))).put (st.ctr + 1) (.cells [.nils] 23 true (some 0))).put (st.ctr + 1 + 1) (.cells [.int .i64 0] 31 true (some 0)) } : St) = q1 := by rw [hq1]; rfl
 clear hq1
 obtain ⟨v, s1, hc, rfl, hk1⟩ := Says.use (JgE gl hh q1 x l hx hok hs hl)
 have bn2 := (hk1.box st.ctr (by omega)).trans bn1
 have br2 := (hk1.box (st.ctr + 1) (by omega)).trans br1
 have be2 := (hk1.box (st.ctr + 2) (by omega)).trans be1
 have cs1 := hk1.ctr
 have hm := JcW (l := l)
 have lx := hx.len Tryz.underlying22
 generalize Jfn l = M at hc hm hR
 refine Ks_ (Ka_ (gs := [none, none, none]) fun K1 gK => ?_)
 simp (disch := omega) [hF, JbF, Jan, hfold, JZ]
 refine gK _ _ (Ks_ ?_)
 refine Kb_ fun K1 gn1 gx1 go1 => ?_
 have gr1 := fun fr st h => go1 AE.ret fr st trivial (gr fr st h)
 refine Ks_ (Ka_ (gs := [none, none, none, none]) fun K1 gK => ?_)
 simp (disch := omega) [hF, hc]
 refine gK _ _ ?_
 obtain ⟨sA, sB, w1, w2, g1, g2, gc, _, _, go⟩ := two (s := s1) (a := st.ctr + 1) (b := st.ctr + 2) (v := .nils) (w := .int .i64 4) (by omega) br2 be2 rfl rfl
 obtain ⟨tA, tB, x1, x2, f1, f2, fc, _, _, fo⟩ := two (s := s1) (a := st.ctr + 1) (b := st.ctr + 2) (v := .nils) (w := .int .i64 1) (by omega) br2 be2 rfl rfl
 have ln := Jb (P := Tryz.prog) (off := 0) a3 z3 bn2 rfl
 have kq2 := kq1.trans hk1
 have keepB : ∀ s' : St, s'.ctr = s1.ctr → (∀ i, i ≠ st.ctr + 1 → i ≠ st.ctr + 2 → s'.box.get i = s1.box.get i) → Keep st s' := fun s' h1 h2 => ⟨by have := kq2.ctr; omega, fun i hi => by rw [h2 i (by omega) (by omega)]; exact kq2.box i hi⟩
 have e12 : st.ctr + 1 + 1 = st.ctr + 2 := rfl
 cases M with
 | true =>
  refine Kf_ (by simp (disch := omega) [e12]) ?_
  have hmf := hm.1 rfl
  by_cases h0 : n < 0
  ·
   refine Ks_ (Ka_ (gs := [none, none, none, some (some 14, false), some (some 14, false), some (some 14, false), some (some 14, false), none, none]) fun K1 gK => ?_)
   simp (disch := omega) [ln, e12, h0, QF]
   refine gK _ _ (Kt_ (by simp (disch := omega) []) (Ks_ (Ka_ (gs := [none, none]) fun K1 gK => ?_)))
   simp (disch := omega) [x1, x2]
   refine gK _ _ (Kq_ (gr1 _ _ ?_))
   simp [JdA, Tryz.f71, hF, JC, f1, f2]
   refine hR _ _ ?_
   exact ⟨⟨.nils, by simp [placeE, show ¬ 0 ≤ n by omega], by simp [JdP, show ¬ 0 ≤ n by omega]; exact .nils⟩, keepB _ fc fo⟩
  ·
   by_cases h1 : (l.length : Int) ≤ n
   ·
    refine Ks_ (Ka_ (gs := [none, none, none, some (some 14, false), some (some 14, false), some (some 14, false), some (some 14, false), none, none]) fun K1 gK => ?_)
    simp (disch := omega) [hF, lx, ln, e12, h0, h1, QF, Qr]
    refine gK _ _ (Kt_ (by simp (disch := omega) []) (Ks_ (Ka_ (gs := [none, none]) fun K1 gK => ?_)))
    simp (disch := omega) [x1, x2]
    refine gK _ _ (Kq_ (gr1 _ _ ?_))
    simp [JdA, Tryz.f71, hF, JC, f1, f2]
    refine hR _ _ ?_
    exact ⟨⟨.nils, by simp [placeE, show ¬ n < (l.length : Int) by omega], by simp [JdP, show ¬ n < (l.length : Int) by omega]; exact .nils⟩, keepB _ fc fo⟩
   ·
    obtain ⟨n0, rfl⟩ := Int.eq_ofNat_of_zero_le (show 0 ≤ n by omega)
    have hn0 : n0 < l.length := by omega
    obtain ⟨y, hy1, hy2⟩ := hall hmf n0 hn0
    have hrun := Jiq (n := n0) (QN l l.length 0 [])
    rw [hy1] at hrun
    simp only at hrun
    obtain ⟨v, s2, hcb, rfl, hs2⟩ := Says.use (Jgv gl s1 x (.int .i64 0) .nils hx.cells1 hx.one rfl rfl)
    have k2 : Keep s1 s2 := by rw [hs2]; exact ((Keep.refl s1).new' _).new' _
    have c2 : s2.ctr = s1.ctr + 2 := by rw [hs2]; rfl
    have bxx2 : s2.box.get (s1.ctr + 1) = some (.cells [.int .i64 0, .nils] 78 true (some 0)) := by rw [hs2, Js, if_pos (show s1.ctr + 1 = (s1.new (.cells [x] 22 true (some 0))).ctr from rfl)]
    have bll2 : s2.box.get s1.ctr = some (.cells [x] 22 true (some 0)) := by rw [hs2, Js, if_neg (by rw [JY]; omega), Js, if_pos rfl]
    clear hs2
    have bn3 := (k2.box st.ctr (by omega)).trans bn2
    have br3 := (k2.box (st.ctr + 1) (by omega)).trans br2
    have be3 := (k2.box (st.ctr + 2) (by omega)).trans be2
    refine Ks_ (Ka_ (gs := [none, none, none, some (some 14, false), some (some 14, false), some (some 14, false), some (some 14, false), none, none]) fun K1 gK => ?_)
    simp (disch := omega) [hF, lx, ln, e12, h0, h1, QF, Qr]
    refine gK _ _ (Kf_ (by simp (disch := omega) []) (Kk_ (gn1 _ _ (Ks_ (Ks_ (Ka_ (gs := [none, none, none]) fun K1 gK => ?_))))))
    simp (disch := omega) [hF, JcQ, hcb, J2]
    refine gK _ _ ?_
    refine Kb_ fun K2 gn2 gx2 go2 => ?_
    have gr2 := fun fr st h => go2 AE.ret fr st trivial (gr fr st h)
    refine Kn_ (fun fr => FsD [] gl [(3, .ptr st.ctr 0), (4, .ptr (st.ctr + 1) 0), (5, .ptr (st.ctr + 2) 0), (22, .fn 69 [] [.ptr (s1.ctr + 1) 0, .ptr s1.ctr 0])] fr) (by simp [FsD, hF]) ?_
    clear hF
    rintro fr hF
    simp only [FsD] at hF
    have hProd := Jh3 gl x l hx hok hs hl hmf l.length 0 [] hmf.pos (Nat.zero_le _) (by omega)
    let G : Option (List S × V) → Nat → Prop := fun s i => i = st.ctr ∨ i = st.ctr + 1 ∨ i = st.ctr + 2 ∨ match s with
     | some (_, y) => vid y i
     | none => False
    let J : Option (List S × V) → Bool → St → Prop := fun s b st' => st.ctr + 3 ≤ st'.ctr ∧ st'.box.get st.ctr = some (.cells [.int .i64 (n0 : Int)] 3 true (some 0)) ∧ st'.box.get (st.ctr + 2) = some (.cells [.int .i64 0] 31 true (some 0)) ∧ match s with
     | some (p, y) => b = true ∧ st'.box.get (st.ctr + 1) = some (.cells [y] 23 true (some 0)) ∧ Mine (st.ctr + 3) 9 st' y (p.map .str)
     | none => b = false ∧ st'.box.get (st.ctr + 1) = some (.cells [.nils] 23 true (some 0))
    have hlow : ∀ s b st', J s b st' → ∀ i, G s i → i < st'.ctr := fun s b st' h i hi => by
     obtain ⟨h1, h2, h3, h4⟩ := h
     rcases hi with rfl | rfl | rfl | hi
     ·omega
     ·omega
     ·omega
     ·cases s with
      | none => exact hi.elim
      | some q => exact (h4.2.2.vid_lt hi).2
    have hstab : ∀ s b st1 st2, J s b st1 → st1.ctr ≤ st2.ctr → (∀ i, G s i → st2.box.get i = st1.box.get i) → J s b st2 := fun s b st1 st2 h hc hb => by
     obtain ⟨h1, h2, h3, h4⟩ := h
     refine ⟨by omega, by rw [hb _ (.inl rfl)]; exact h2, by rw [hb _ (.inr (.inr (.inl rfl)))]; exact h3, ?_⟩
     cases s with
     | none => exact ⟨h4.1, by rw [hb _ (.inr (.inl rfl))]; exact h4.2⟩
     | some q => exact ⟨h4.1, by rw [hb _ (.inr (.inl rfl))]; exact h4.2.1, h4.2.2.stab hc fun i hi => hb i (.inr (.inr (.inr hi)))⟩
    have cs2 := k2.ctr
    refine Jht hProd (pre := fun _ _ => True) (obs := fun s => s.map (·.1)) (step := Jd1 n0) (G := G) hlow hstab (s := none) (JkM _ _) (dst := 6) (xb := s1.ctr + 1) (lb := s1.ctr) (by simp [hF]) ⟨by omega, bn3, be3, rfl, br3⟩ (by omega) (by omega) (by rintro (h | h | h | h) <;> first | omega | exact h) (by rintro (h | h | h | h) <;> first | omega | exact h) bxx2 bll2 .nils trivial
     (fun fr' => fr'.at 3 = .ptr st.ctr 0 ∧ fr'.at 4 = .ptr (st.ctr + 1) 0 ∧ fr'.at 5 = .ptr (st.ctr + 2) 0 ∧ fr'.ds = [] ∧ fr'.gl = gl) (fun v => ⟨by rw [Jag, if_neg (by decide)]; exact hF.1, by rw [Jag, if_neg (by decide)]; exact hF.2.1, by rw [Jag, if_neg (by decide)]; exact hF.2.2.1, rfl, rfl⟩) (by simp [hF]) ?_ ?_ ?_ ?_
    ·as_aux_lemma =>
     intro id' fr' st' a pv' K hoa hop h23 hΦ hk
     obtain ⟨h3, h4, h5, hd, hg⟩ := hΦ
     have hF : fr'.at 23 = .agg [a, pv'] ∧ fr'.at 3 = .ptr st.ctr 0 ∧ fr'.at 4 = .ptr (st.ctr + 1) 0 ∧ fr'.at 5 = .ptr (st.ctr + 2) 0 ∧ fr'.ds = [] ∧ fr'.gl = gl := ⟨h23, h3, h4, h5, hd, hg⟩
     have ga : ({ ctr := st'.ctr + 1, box := st'.box.put st'.ctr (.cells [.int .i64 0, .nils] 78 true (some 0)) } : St).box.get st'.ctr = some (.cells [.int .i64 0, .nils] 78 true (some 0)) := by simp [Tr.get_put]
     have wa := Jgu hoa hop ga
     refine Ka_ (gs := [none, none]) fun K1 gK => ?_
     simp (disch := omega) [hF, Jpd, wa, JZ]
     refine gK _ _ ?_
     exact hk _ _ (by simp) ⟨by simp [hF], by simp [hF], by simp [hF], by simp [hF], by simp [hF]⟩ rfl (fun i hi => by rw [Jm, if_neg hi]; show (st'.box.put st'.ctr _).get i = _; rw [Tr.get_put, if_neg hi]) (by rw [Jm, if_pos rfl])
    ·as_aux_lemma =>
     intro id' fr' s st' y pv' nb K hΦ h6 hJ hnb hnG hnc hv' hap' hpl _ hkt hkf
     obtain ⟨h3, h4, h5, hd, hg⟩ := hΦ
     obtain ⟨j1, j2, j3, j4⟩ := hJ
     have hF : fr'.at 6 = .ptr nb 0 ∧ fr'.at 3 = .ptr st.ctr 0 ∧ fr'.at 4 = .ptr (st.ctr + 1) 0 ∧ fr'.at 5 = .ptr (st.ctr + 2) 0 ∧ fr'.ds = [] ∧ fr'.gl = gl := ⟨h6, h3, h4, h5, hd, hg⟩
     obtain rfl : s = none := by
      cases s with
      | none => rfl
      | some q => exact absurd j4.1 (by decide)
     have j4 := j4.2
     have la := Jb (P := Tryz.prog) (T := 3) (off := 0) a3 z3 hnb rfl
     have lb' := Jb (P := Tryz.prog) (T := 23) (off := 1) a23 z23 hnb rfl
     have lc := Jb (P := Tryz.prog) (off := 0) a3 z3 j2 rfl
     obtain ⟨v, q2, hcl, hmine, hkq⟩ := Says.use (JmS gl st' pv' y.2 hv' (by omega))
     obtain ⟨sC, sD, u1, u2, _, _, uc, ua, ub, uo⟩ := two (s := q2) (a := st.ctr + 1) (b := st.ctr + 2) (v := v) (w := .int .i64 0) (by omega) (by rw [hkq.box _ (by omega)]; exact j4) (by rw [hkq.box _ (by omega)]; exact j3) hmine.sim rfl
     have gq : ∀ fr st2, st2 = sD ∧ decide (y.1 = n0) = true → K .ret fr st2 := fun fr st2 h => by
      rw [h.1]
      have hcq := hkq.ctr
      refine hkf fr sD (some (y.2, v)) (by simp only [Jd1, h.2]; rfl) (by simp only [Jd1, h.2]; rfl) ⟨by omega, by rw [uo _ (by omega) (by omega), hkq.box _ (by omega)]; exact j2, ub, rfl, ua, ?_⟩ ⟨by omega, fun i hi hn => ?_⟩ fun i hi => ?_
      ·refine (hmine.low (by omega)).stab (by omega) fun i hi => uo i ?_ ?_
       ·have := (hmine.vid_lt hi).1; omega
       ·have := (hmine.vid_lt hi).1; omega
      ·rw [uo i (fun e => hn (.inr (.inl e))) (fun e => hn (.inr (.inr (.inl e)))), hkq.box i hi]
      ·rcases hi with hi | hi | hi | hi
       ·exact .inl (.inl hi)
       ·exact .inl (.inr (.inl hi))
       ·exact .inl (.inr (.inr (.inl hi)))
       ·exact .inr (hmine.vid_lt hi).1
     refine Kb_ fun K3 gn3 gx3 go3 => ?_
     have gr3 := fun fr st h => go3 AE.ret fr st trivial (gq fr st h)
     refine Ks_ (Ka_ (gs := [none, none, none, none]) fun K1 gK => ?_)
     simp (disch := omega) [hF, la, lc]
     refine gK _ _ ?_
     by_cases hyn : y.1 = n0
     ·
      refine Kt_ (by simp (disch := omega) [hyn]) (Ks_ (Ka_ (gs := [none, none, none, none, none]) fun K1 gK => ?_))
      simp (disch := omega) [hF, lb', hcl, u1, u2, hyn]
      refine gK _ _ ?_
      exact Kq_ (gr3 _ _ ⟨rfl, decide_eq_true hyn⟩)
     ·
      refine Kf_ (by simp (disch := omega) [hyn]) (Kk_ (gn3 _ _ ?_))
      exact hkt _ st' none (by simp only [Jd1, decide_eq_false hyn]; rfl) (by simp only [Jd1, decide_eq_false hyn]; rfl) ⟨j1, j2, j3, rfl, j4⟩ (.refl _ _) fun i hi => .inl hi
    ·as_aux_lemma =>
     intro st2 s5 hr2 ho5 hI5 hO5 hS5 hmk5 hc5
     exact absurd (show (Qm (Jd1 n0) none (QN l l.length 0 [])).2 = false from hr2) (by rw [hrun]; simp)
    ·as_aux_lemma =>
     intro st2 s5 hr2 ho5 hI5 hO5 hS5 hmk5 hc5
     refine gr2 _ _ ?_
     have ho6 : s5.map (·.1) = some y.2 := by
      rw [ho5]
      show (Qm (Jd1 n0) none (QN l l.length 0 [])).1 = _
      rw [hrun]
     obtain ⟨j1, j2, j3, j4⟩ := hI5
     cases s5 with
     | none => cases ho6
     | some q =>
      obtain ⟨_, j5, j6⟩ := j4
      have hqp : q.1 = y.2 := by simpa using ho6
      have hm1 : (st2.put s2.ctr (.mark true)).box.get (st.ctr + 1) = some (.cells [q.2] 23 true (some 0)) := by rw [Jm, if_neg (by omega)]; exact j5
      have hm2 : (st2.put s2.ctr (.mark true)).box.get (st.ctr + 2) = some (.cells [.int .i64 0] 31 true (some 0)) := by rw [Jm, if_neg (by omega)]; exact j3
      have v1 := Jb (P := Tryz.prog) (T := 23) (off := 0) a23 z23 hm1 rfl
      have v2 := Jb (P := Tryz.prog) (T := 31) (off := 0) a26 z26 hm2 rfl
      refine ⟨.inl rfl, st2.put s2.ctr (.mark true), ?_, [q.2, .int .i64 0], ?_, hR _ _ ⟨⟨q.2, ?_, ?_⟩, ?_⟩⟩
      ·show JC (Df.mark s2.ctr :: fr.ds) st2 = _
       rw [hF.2.2.2.2.1]
       simp only [JC, hmk5]
      ·have f4 : Fr.at ({ fr with ds := .mark s2.ctr :: fr.ds } : Fr) 4 = .ptr (st.ctr + 1) 0 := hF.2.1
       have f5 : Fr.at ({ fr with ds := .mark s2.ctr :: fr.ds } : Fr) 5 = .ptr (st.ctr + 2) 0 := hF.2.2.1
       simp [Tryz.f71, f4, f5, v1, v2]
      ·simp [placeE, hn0]
      ·rw [show JdP true l (n0 : Int) = q.1 from by rw [hqp, hy2]; simp [JdP, hn0]]
       refine (j6.low (by omega)).stab (Nat.le_refl _) fun i hi => ?_
       rw [Jm, if_neg]
       rintro rfl
       rcases hS5 _ (.inr (.inr (.inr hi))) with (h | h | h | h) | h
       ·omega
       ·omega
       ·omega
       ·exact h
       ·omega
      ·have hcc := hO5.ctr
       exact ⟨by rw [JB]; omega, fun i hi => by
        rw [Jm, if_neg (by omega), hO5.box i (by omega) (by rintro (h | h | h | h) <;> first | omega | exact h), k2.box i (by omega), kq2.box i hi]⟩
 | false =>
  refine Kt_ (by simp (disch := omega) [e12]) (Ks_ (Ka_ (gs := [none, none]) fun K1 gK => ?_))
  simp (disch := omega) [e12, w1, w2]
  refine gK _ _ (Kq_ (gr1 _ _ ?_))
  simp [JdA, Tryz.f71, hF, JC, g1, g2]
  refine hR _ _ ?_
  exact ⟨⟨.nils, rfl, .nils⟩, keepB _ gc go⟩
end Go.Vm
namespace Go.Vm
open Go Go.Proofs Go.Pa
theorem Jfr {l : List Fw} (hm : MayF l) {n : Nat} (hn : n < l.length) {k : Int} (hk : k ∈ l[n].kids) : upOf l k.toNat = n ∧ 1 ≤ k.toNat ∧ k.toNat < l.length ∧ ((k.toNat : Nat) : Int) = k := by
 have h1 := hm.kid n hn k hk
 have e : ((k.toNat : Nat) : Int) = k := Int.toNat_of_nonneg (by omega)
 have hc := hm.once k.toNat (by omega) (by omega)
 obtain ⟨u1, u2, ha, u3, hmem⟩ := Ja9 hm (m := k.toNat) (by omega) (by omega)
 refine ⟨?_, by omega, by omega, e⟩
 rw [← JkX] at hc
 match ho : occ l ((k.toNat : Nat) : Int), hc with
 | [a], _ =>
  have m1 : n ∈ occ l ((k.toNat : Nat) : Int) := JhS.2 ⟨hn, by rw [e]; exact hk⟩
  have m2 : upOf l k.toNat ∈ occ l ((k.toNat : Nat) : Int) := JhS.2 ⟨u3, hmem⟩
  rw [ho] at m1 m2
  simp at m1 m2
  omega
theorem Jg6 {L : List Int} {k : Int} {i j : Nat} (hij : i < j) (hj : j < L.length) (h1 : L[i]'(by omega) = k) (h2 : L[j] = k) : 2 ≤ L.count k := by
 have e : L = L.take j ++ L.drop j := (List.take_append_drop j L).symm
 rw [e, List.count_append]
 have a : 1 ≤ (L.take j).count k := List.one_le_count_iff.2 (by
  rw [List.mem_iff_getElem]
  exact ⟨i, by simp; omega, by simp [h1]⟩)
 have b : 1 ≤ (L.drop j).count k := List.one_le_count_iff.2 (by
  rw [List.mem_iff_getElem]
  exact ⟨0, by simp; omega, by simp [h2]⟩)
 omega
theorem JfM {l : List Fw} {n : Nat} (hn : n < l.length) (k : Int) : l[n].kids.count k ≤ (Qw l).count k := by
 have e : l = l.take n ++ l[n] :: l.drop (n + 1) := by rw [← List.drop_eq_getElem_cons hn, List.take_append_drop]
 have : Qw l = Qw (l.take n) ++ (l[n].kids ++ Qw (l.drop (n + 1))) := by
  unfold Qw
  rw [← List.flatMap_cons, ← List.flatMap_append, ← e]
 rw [this, List.count_append, List.count_append]
 omega
theorem Jml {l : List Fw} (hm : MayF l) {n : Nat} (hn : n < l.length) {i j : Nat} (hi : i < l[n].kids.length) (hj : j < l[n].kids.length) (h : l[n].kids[i] = l[n].kids[j]) : i = j := by
 obtain ⟨_, h1, h2, e⟩ := Jfr hm hn (List.getElem_mem hj)
 have hc := hm.once _ h1 h2
 rw [e] at hc
 have hk := JfM hn (l[n].kids[j])
 rcases Nat.lt_trichotomy i j with hl | hl | hl
 ·have := Jg6 hl hj h rfl; omega
 ·exact hl
 ·have := Jg6 hl hi rfl h; omega
theorem Jfs {l : List Fw} (hm : MayF l) {n j : Nat} (hn : n < l.length) (hj : j < l[n].kids.length) (hj' : j < l[n].names.length) : JdN l[n] l[n].kids[j] = l[n].names[j] :=
 JlT hj (fun i hi hij he => by have := Jml hm hn hi hj he; omega) rfl hj'
theorem Jlx {l : List Fw} (hm : MayF l) {n j : Nat} (hn : n < l.length) (hj : j < l[n].kids.length) (hj' : j < l[n].names.length) : QW l l[n].kids[j].toNat = QW l n ++ [l[n].names[j]] := by
 obtain ⟨hu, h1, h2, e⟩ := Jfr hm hn (List.getElem_mem hj)
 rw [Jbi hm h1 h2]
 have hg : ∀ (m : Nat) (h : m < l.length), m = n → JdN (l[m]'h) ((l[n].kids[j].toNat : Nat) : Int) = l[n].names[j] := fun m h hmn => by
  subst hmn
  rw [e]; exact Jfs hm hn hj hj'
 rw [hg _ _ hu, hu]
theorem Jcs {l : List Fw} (hm : MayF l) : ∀ (d n : Nat) (y : Nat × List S), n < l.length → y ∈ QN l d n (QW l n) → y.2 = QW l y.1
 | 0, n, y, _, h => by simp [QN] at h
 | d + 1, n, y, hn, h => by
  simp only [QN, List.getElem?_eq_getElem hn, List.mem_cons] at h
  rcases h with rfl | h
  ·rfl
  ·rw [List.mem_flatMap] at h
   obtain ⟨q, hq, hy⟩ := h
   obtain ⟨j, hj, rfl⟩ := List.getElem_of_mem hq
   have hj1 : j < l[n].kids.length := by simp at hj; omega
   have hj2 : j < l[n].names.length := by simp at hj; omega
   rw [List.getElem_zip] at hy
   simp only at hy
   rw [← Jlx hm hn hj1 hj2] at hy
   exact Jcs hm d _ y (Jfr hm hn (List.getElem_mem hj1)).2.2.1 hy
def JbG (m : Nat) (L : List (Nat × List S)) : Nat := L.countP fun y => decide (y.1 = m)
theorem JfN (m : Nat) (a b : List (Nat × List S)) : JbG m (a ++ b) = JbG m a + JbG m b := by simp [JbG]
theorem JfO {α : Type} (m : Nat) (f : α → List (Nat × List S)) : ∀ L : List α, JbG m (L.flatMap f) = (L.map fun q => JbG m (f q)).sum
 | [] => rfl
 | a :: L => by rw [List.flatMap_cons, JfN, JfO m f L]; simp
theorem JkN {α : Type} (f g : α → Nat) : ∀ L : List α, (L.map fun q => f q + g q).sum = (L.map f).sum + (L.map g).sum
 | [] => rfl
 | a :: L => by simp only [List.map_cons, List.sum_cons, JkN f g L]; omega
theorem JkO (m : Nat) : ∀ (ks : List Int) (ns : List S), ks.length = ns.length → (∀ k ∈ ks, 0 ≤ k) → ((ks.zip ns).map fun q => if q.1.toNat = m then 1 else 0).sum = ks.count (m : Int)
 | [], _, _, _ => by simp
 | k :: ks, n :: ns, h, h0 => by
  rw [List.zip_cons_cons, List.map_cons, List.sum_cons, JkO m ks ns (by simpa using h) (fun x hx => h0 x (by simp [hx])), List.count_cons]
  have := h0 k (by simp)
  by_cases hk : k = (m : Int)
  ·subst hk; simp; omega
  ·have : ¬ k.toNat = m := by omega
   simp [hk, this]
theorem Jly {l : List Fw} (hm : MayF l) {n m : Nat} (hn : n < l.length) (h1 : 1 ≤ m) (h2 : m < l.length) : l[n].kids.count (m : Int) = if n = upOf l m then 1 else 0 := by
 have hle := JfM hn (m : Int)
 rw [hm.once m h1 h2] at hle
 by_cases h : n = upOf l m
 ·rw [if_pos h]
  obtain ⟨_, _, _, u3, hmem⟩ := Ja9 hm h1 h2
  have : (m : Int) ∈ l[n].kids := by
   subst h; exact hmem
  have := List.one_le_count_iff.2 this
  omega
 ·rw [if_neg h, List.count_eq_zero]
  intro hk
  exact h ((Jfr hm hn hk).1).symm
theorem Jir {l : List Fw} (hm : MayF l) {m : Nat} (h1 : 1 ≤ m) (h2 : m < l.length) : ∀ (d n : Nat) (p : List S), n < l.length → l.length - n ≤ d → JbG m (QN l d n p) = (if n = m then 1 else 0) + JbG (upOf l m) (QN l d n p)
 | 0, n, p, hn, hd => by omega
 | d + 1, n, p, hn, hd => by
  have hcons : ∀ m, JbG m (QN l (d + 1) n p) = (if n = m then 1 else 0) + JbG m ((l[n].kids.zip l[n].names).flatMap fun q => QN l d q.1.toNat (p ++ [q.2])) := fun m => by
   simp only [QN, List.getElem?_eq_getElem hn]
   rw [← List.singleton_append, JfN]
   congr 1
   simp [JbG, List.countP_cons]
  have hlen := JcX (hm.one n hn)
  rw [hcons m, hcons (upOf l m)]
  have hstep : JbG m ((l[n].kids.zip l[n].names).flatMap fun q => QN l d q.1.toNat (p ++ [q.2])) = l[n].kids.count (m : Int) + JbG (upOf l m) ((l[n].kids.zip l[n].names).flatMap fun q => QN l d q.1.toNat (p ++ [q.2])) := by
   rw [JfO, JfO, ← JkO m l[n].kids l[n].names hlen.symm (fun k hk => by have := hm.kid n hn k hk; omega), ← JkN]
   congr 1
   apply List.map_congr_left
   intro q hq
   have hk := hm.kid n hn q.1 (List.of_mem_zip hq).1
   exact Jir hm h1 h2 d _ _ (by omega) (by omega)
  rw [hstep, Jly hm hn h1 h2]
theorem Jg7 {l : List Fw} (hm : MayF l) : ∀ m, m < l.length → JbG m (QN l l.length 0 []) = 1 := by
 intro m
 induction m using Nat.strongRecOn with
 | _ m ih =>
  intro h
  by_cases h0 : m = 0
  ·subst h0
   have hp := hm.pos
   obtain ⟨d, hd⟩ : ∃ d, l.length = d + 1 := ⟨l.length - 1, by omega⟩
   rw [hd]
   simp only [QN, List.getElem?_eq_getElem hp]
   rw [← List.singleton_append, JfN]
   have hz : JbG 0 ((l[0].kids.zip l[0].names).flatMap fun q => QN l d q.1.toNat ([] ++ [q.2])) = 0 := by
    unfold JbG
    rw [List.countP_eq_zero]
    intro y hy
    rw [List.mem_flatMap] at hy
    obtain ⟨q, hq, hy⟩ := hy
    have hk := hm.kid 0 hp q.1 (List.of_mem_zip hq).1
    have := (Jem hm d _ _ y hy).1
    simp; omega
   rw [hz]
   simp [JbG]
  ·rw [Jir hm (by omega) h l.length 0 [] hm.pos (by omega), if_neg (by omega)]
   obtain ⟨u1, u2, _, _⟩ := Ja9 hm (by omega) h
   rw [ih _ u1 u2]
theorem Jlz {l : List Fw} (hm : MayF l) (m : Nat) (h : m < l.length) : ∃ y, (QN l l.length 0 []).find? (fun y => decide (y.1 = m)) = some y ∧ y.2 = QW l m := by
 cases hf : (QN l l.length 0 []).find? (fun y => decide (y.1 = m)) with
 | none =>
  exfalso
  have h1 := Jg7 hm m h
  have h2 : JbG m (QN l l.length 0 []) = 0 := by
   unfold JbG
   rw [List.countP_eq_zero]
   intro y hy
   exact List.find?_eq_none.1 hf y hy
  omega
 | some y =>
  refine ⟨y, rfl, ?_⟩
  have h1 := List.find?_some hf
  have h2 := List.mem_of_find?_eq_some hf
  rw [Jcs hm l.length 0 y hm.pos h2, of_decide_eq_true h1]
theorem Je1 : ∀ (N : Nat) (L : List (Nat × List S)), (∀ y ∈ L, y.1 < N) → (∀ m, m < N → JbG m L = 1) → L.length = N
 | 0, [], _, _ => rfl
 | 0, y :: L, h, _ => by have := h y (by simp); omega
 | N + 1, L, h, hc => by
  have hlen : L.length = JbG N L + (L.filter fun y => !decide (y.1 = N)).length := by
   unfold JbG
   rw [List.countP_eq_length_filter]
   have : ∀ L : List (Nat × List S), L.length = (L.filter fun y => decide (y.1 = N)).length + (L.filter fun y => !decide (y.1 = N)).length := fun L => by
    induction L with
    | nil => rfl
    | cons z L ih =>
     by_cases hz : z.1 = N
     ·rw [List.filter_cons_of_pos (by simpa using hz), List.filter_cons_of_neg (by simpa using hz), List.length_cons, List.length_cons]; omega
     ·rw [List.filter_cons_of_neg (by simpa using hz), List.filter_cons_of_pos (by simpa using hz), List.length_cons, List.length_cons]; omega
   exact this L
  have ih := Je1 N (L.filter fun y => !decide (y.1 = N)) (fun y hy => by
   rw [List.mem_filter] at hy
   have := h y hy.1
   have h3 : ¬ y.1 = N := by simpa using hy.2
   omega) (fun m hm => by
   rw [← hc m (by omega)]
   unfold JbG
   rw [List.countP_filter]
   apply List.countP_congr
   intro y _
   simp only [Bool.and_eq_true, decide_eq_true_eq, Bool.not_eq_true', decide_eq_false_iff_not]
   constructor
   ·exact fun h => h.1
   ·exact fun h => ⟨h, by omega⟩)
  rw [hlen, ih, hc N (by omega)]
  omega
theorem JfP {l : List Fw} (hm : MayF l) : (QN l l.length 0 []).length = l.length :=
 Je1 _ _ (fun y hy => (Jem hm _ _ _ y hy).2 hm.pos) (Jg7 hm)
theorem Jis {l : List Fw} : ∀ (p q : List S) (n : Nat), Jdy l n (p ++ q) = match Jdy l n p with
  | some m => Jdy l m q
  | none => none
 | [], q, n => rfl
 | s :: p, q, n => by
  simp only [List.cons_append, Jdy]
  cases l[n]? with
  | none => rfl
  | some f =>
   simp only
   cases Je7 f s with
   | none => rfl
   | some k => exact Jis p q k.toNat
theorem JfQ {l : List Fw} (hm : MayF l) : ∀ m, m < l.length → Jdy l 0 (QW l m) = some m := by
 intro m
 induction m using Nat.strongRecOn with
 | _ m ih =>
  intro h
  by_cases h0 : m = 0
  ·subst h0; rfl
  ·obtain ⟨u1, u2, _, _, hmem⟩ := Ja9 hm (by omega) h
   rw [Jbi hm (by omega) h, Jis, ih _ u1 u2]
   simp only [Jdy, List.getElem?_eq_getElem u2]
   obtain ⟨j, hj, hjk⟩ := List.getElem_of_mem hmem
   have hlen := JcX (hm.one _ u2)
   have hn := Jfs hm u2 hj (by omega)
   rw [hjk] at hn
   rw [hn, JlR (JiQ (hm.one _ u2)) hlen (by omega : j < l[upOf l m].names.length) (JlD _), hjk]
   simp
end Go.Vm
namespace Go.Vm
open Go Go.Proofs Go.Pa
attribute [local simp] OkG Qf Qs OkD J3 Qe JL Je Jk vop Jq Jx ev evs toV Jj Fr.dsTo Fr.glTo Fr.toNone Jg Jh Ji J7 QI Jc JF Jt V.undef JX JQ Qg J8 J9 Qa Qh Qi JT Qb Qj Qc JR Qk JE Jw Jy JD JG Ju JS JW Jb0 Jb1 Q6 Jbh JdL JdM fg0 fg1 fg2 fg3 fg4 fg5 fh0 fh1 JK Ql Jl Jal Jr
def Jb7 (b : UInt8) : List UInt8 := if b = 10 then [92, 110] else if b = 92 then [92, 92] else [b]
def esc (l : List UInt8) : List UInt8 := l.flatMap Jb7
def Jb8 (p : List S) : List UInt8 := match p with
 | [] => [47]
 | p => p.flatMap fun s => 47 :: s.toList
def Jps : Nat → Nat → List UInt8
 | 0, _ => []
 | d + 1, n => (if n / 10 = 0 then [] else Jps d (n / 10)) ++ [UInt8.ofNat (48 + n % 10)]
def Jb9 (n : Nat) : List UInt8 := Jps (n + 1) n
def JcM (f : Fw) : List UInt8 :=
 cond (!f.known) [97, 110, 121] <| cond (decide (f.kind = 0)) [97, 98, 115, 101, 110, 116] <| cond (decide (f.kind = 1)) [102, 105, 108, 101] <| cond (decide (f.kind = 3)) [108, 105, 110, 107] <|
 cond (decide (f.rest = 1)) ([100, 105, 114, 32, 119, 104, 111, 108, 101]) <| cond (decide (f.rest = 2)) ([100, 105, 114, 32, 109, 111, 114, 101, 32] ++ Jb9 f.beside.toNat) [100, 105, 114]
def Joz (f : Fw) (p : List S) : List UInt8 := esc (Jb8 p) ++ [58, 32] ++ JcM f
def JfR (l : List Fw) (y : Nat × List S) : List UInt8 := match l[y.1]? with
 | some f => Joz f y.2
 | none => []
theorem JkP (a b : List UInt8) : esc (a ++ b) = esc a ++ esc b := by simp [esc]
theorem JaF : ∀ l : List UInt8, (esc l).length ≤ 2 * l.length
 | [] => Nat.le_refl _
 | a :: l => by
  have := JaF l
  have h1 : (Jb7 a).length ≤ 2 := by
   unfold Jb7
   split
   ·simp
   ·split <;> simp
  rw [show esc (a :: l) = Jb7 a ++ esc l from by simp [esc], List.length_append, List.length_cons]; omega
theorem Jmm (s : S) {i : Nat} (h : i < s.n) : s.toList.take (i + 1) = s.toList.take i ++ [UInt8.ofNat (s.at i)] := by
 have h1 := s.toList_at h
 have h2 : i < s.toList.length := by rw [S.len]; exact h
 rw [List.take_add_one, h1]; rfl
theorem Jbk (a b : S) : (a.app b).n = a.n + b.n := rfl
theorem JP (l : List UInt8) : (S.ofList l).n = l.length := rfl
theorem JkQ : Jb7 (UInt8.ofNat 10) = [92, 110] := rfl
theorem JkR : Jb7 (UInt8.ofNat 92) = [92, 92] := rfl
theorem Jg8 {c : Nat} (hc : c < 256) (h1 : ¬ c = 10) (h2 : ¬ c = 92) : Jb7 (UInt8.ofNat c) = [UInt8.ofNat c] := by
 have e1 : ¬ UInt8.ofNat c = 10 := fun h => h1 ((JhV hc (by decide : 10 < 256)).1 h)
 have e2 : ¬ UInt8.ofNat c = 92 := fun h => h2 ((JhV hc (by decide : 92 < 256)).1 h)
 unfold Jb7
 rw [if_neg e1, if_neg e2]
variable [Memo] [NY]
omit [Memo] [NY] in
theorem Jdf (c : UInt8) {B : Nat} : ∀ (p : List S), (∀ s ∈ p, s.n ≤ B) → (p.flatMap fun s => c :: s.toList).length ≤ (B + 1) * p.length
 | [], _ => Nat.zero_le _
 | s :: p, h => by
  have := Jdf c p fun t ht => h t (by simp [ht])
  have := h s (by simp)
  simp only [List.flatMap_cons, List.length_append, List.length_cons, S.len, Nat.mul_add]; omega
omit [Memo] [NY] in
theorem JfS (p : List S) (h : ∀ s ∈ p, s.n ≤ 300) : (p.flatMap fun s => 47 :: s.toList).length ≤ 301 * p.length := Jdf 47 p h
omit [Memo] [NY] in
theorem JlA {c : UInt8} {p : List S} {i : Nat} (h : i < p.length) : (p.take (i + 1)).flatMap (fun s => c :: s.toList) = (p.take i).flatMap (fun s => c :: s.toList) ++ c :: p[i].toList := by
 rw [List.take_add_one, List.getElem?_eq_getElem h, List.flatMap_append]; simp
omit [Memo] [NY] in
theorem Jmn {p : List S} (h : ¬ p = []) : Jb8 p = p.flatMap fun s => 47 :: s.toList := by
 cases p with
 | nil => exact absurd rfl h
 | cons a b => rfl
class NZ [Memo] : Prop where
 itoa : ∀ (n : Nat) (st : St), n ≤ 255 → ∃ t : S, (Memo.look 24).run [.int .i64 (n : Int)] st = some (.str t, st) ∧ t.toList = Jb9 n
 digits : ∀ (n : Nat) (st : St), n ≤ 255 → ∃ t : S, (Memo.look 28).run [.int .i64 (n : Int)] st = some (.str t, st) ∧ t.toList = Jb9 n
omit [NY] in
theorem Jd2 {P : Program} {gl : Gl} {f : Nat} {args : List V} {st st' : St} {v : V} (h : (Memo.look f).run args st = some (v, st')) : W P (.call gl f args) st = .call (.val v st') := by
 refine JnG rfl ⟨1, fun m hm => ?_⟩
 obtain ⟨k, rfl⟩ : ∃ k, m = k + 1 := ⟨m - 1, by omega⟩
 simp only [X, Jek, h]
omit [NY] in
theorem JkS [NZ] (gl : Gl) (st : St) (n : Nat) (h : n ≤ 255) : Says Tryz.prog gl 24 [.int .i64 (n : Int)] st fun v st' => (∃ t : S, v = .str t ∧ t.toList = Jb9 n) ∧ Sm st st' := by
 obtain ⟨t, h1, h2⟩ := NZ.itoa n st h
 exact ⟨_, _, Jd2 h1, ⟨t, rfl, h2⟩, rfl⟩
end Go.Vm
