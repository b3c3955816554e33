/- The place of a fact: by the program. The tour of facts that may be: plain. Lines of facts: by the document. -/
import Derived.Test.YtidnmhdlfofinaaGreatDoorPz5
namespace Go.Vm
open Go Go.Proofs Go.Pa
attribute [local simp] OkG xOpsG wantG OkD OkRuns xOps xDrawL vwanted isDefer vop kindOf vpure ev evs toV atTo_some Fr.dsTo Fr.glTo Fr.toNone initFr_at initFr_ds initFr_gl veff vact traverse tupled vresult V.undef evOpt sameIn nn_eql nn_neq nn_lss nn_leq nn_gtr nn_geq nl_eql nl_neq nl_lss nl_leq nl_gtr nl_geq vbin_seql vbin_sneq vload_ctr vbin_add vbin_sub wrap_i64 veq_str veq_int fcp0 fcp1 fcp2 fcp3 fcp4 fcp5 fg0 fg1 fg2 fg3 fg4 fg5 fh0 fh1 valloc mkRef cells_agg cells_int cells_nils
theorem z26 : sizeT Tryz.prog 26 = some 1 := by kernel_rfl
theorem a26 : isAggT Tryz.prog 26 = some false := by kernel_rfl
theorem zs26 : zeroT Tryz.prog 26 = some (.int .i64 0) := by kernel_rfl
theorem zs23 : zeroT Tryz.prog 23 = some .nils := by kernel_rfl
theorem bz47 : vbuild Tryz.prog 47 [] = some (.agg [.int .i64 0, .nils]) := by kernel_rfl
def seekS (n : Nat) (s : Option (List S)) (y : Nat × List S) : Option (List S) × Bool := cond (decide (y.1 = n)) (some y.2, false) (s, true)
theorem seek_run {n : Nat} : ∀ (L : List (Nat × List S)), runC (seekS n) none L = match L.find? (fun y => decide (y.1 = n)) with
    | some y => (some y.2, true)
    | none => (none, false)
  | [] => rfl
  | y :: r => by
    rw [runC, List.find?_cons]
    unfold seekS
    cases h : decide (y.1 = n) with
    | true => rfl
    | false => simp only [cond_false]; exact seek_run r
theorem store1 {st : St} {T id : Nat} {v w : V} {e : TypeId} {fl : Bool} (hz : sizeT Tryz.prog T = some 1) (hs : simV v = true) (hb : st.box.get id = some (.cells [w] e fl (some 0))) : vstore Tryz.prog st T (.ptr id 0) v = some (st.put id (.cells [v] e fl (some 0))) := by
  rw [vstore_one hz hb (by simp) hs]; rfl
theorem two {s : St} {a b : Nat} {v w v0 w0 : V} (hab : a ≠ b) (ha : s.box.get a = some (.cells [v0] 23 true (some 0))) (hb : s.box.get b = some (.cells [w0] 26 true (some 0))) (hv : simV v = true) (hw : simV w = true) :
    ∃ s2 s3, vstore Tryz.prog s 23 (.ptr a 0) v = some s2 ∧ vstore Tryz.prog s2 26 (.ptr b 0) w = some s3 ∧ vload Tryz.prog s3 23 (.ptr a 0) = some v ∧ vload Tryz.prog s3 26 (.ptr b 0) = some w ∧ s3.ctr = s.ctr ∧
      s3.box.get a = some (.cells [v] 23 true (some 0)) ∧ s3.box.get b = some (.cells [w] 26 true (some 0)) ∧ ∀ i, i ≠ a → i ≠ b → s3.box.get i = s.box.get i := by
  have h1 := store1 z23 hv ha
  have hb2 : (s.put a (.cells [v] 23 true (some 0))).box.get b = some (.cells [w0] 26 true (some 0)) := by rw [put_get, if_neg (Ne.symm hab)]; exact hb
  have h2 := store1 z26 hw hb2
  have ga : ((s.put a (.cells [v] 23 true (some 0))).put b (.cells [w] 26 true (some 0))).box.get a = some (.cells [v] 23 true (some 0)) := by rw [put_get, if_neg hab, put_get, if_pos rfl]
  have gb : ((s.put a (.cells [v] 23 true (some 0))).put b (.cells [w] 26 true (some 0))).box.get b = some (.cells [w] 26 true (some 0)) := by rw [put_get, if_pos rfl]
  exact ⟨_, _, h1, h2, vload_of (off := 0) a23 z23 ga rfl, vload_of (off := 0) a26 z26 gb rfl, rfl, ga, gb, fun i h3 h4 => by rw [put_get, if_neg h4, put_get, if_neg h3]⟩
theorem goodAll {τ α : Type} {step : τ → α → τ × Bool} : ∀ (L : List α) (s : τ), GoodRun step (fun _ _ => True) s L
  | [], _ => trivial
  | _ :: r, _ => ⟨trivial, fun _ => goodAll r _⟩
variable [Memo] [NY]
set_option maxHeartbeats 1000000 in
set_option maxRecDepth 100000 in
theorem wPlace (gl : Gl) {aL : List V} (hh : Hits gl aL) (st : St) (x : V) (l : List Fw) (n : Int) (hx : Row Fw.cells x l) (hok : ∀ f ∈ l, f.ok) (hs : ∀ f ∈ l, f.small) (hl : l.length ≤ 60) (hall : ∀ (hm : MayF l) (m : Nat), m < l.length → ∃ y, (tour l l.length 0 []).find? (fun y => decide (y.1 = m)) = some y ∧ y.2 = placeL l m) :
    Says Tryz.prog gl 11 [x, .int .i64 n] st (fun v st' => PlaceR st.ctr (mayP l) l n st' v ∧ Keep st st') := by
  refine saysM (NY.no _ rfl rfl rfl _ _) Tryz.func11 rfl (by kernel_rfl) fun R hR K gr gn => ?_
  generalize hfr : initFr gl [x, .int .i64 n] = fr
  have hF : FsD [] gl [(0, x), (1, .int .i64 n)] fr := by subst hfr; simp [FsD]
  simp only [FsD] at hF
  clear hfr
  obtain ⟨q1, hq1⟩ : ∃ q, q = ((st.new (.cells [.int .i64 n] 3 true (some 0))).new (.cells [.nils] 23 true (some 0))).new (.cells [.int .i64 0] 26 true (some 0)) := ⟨_, rfl⟩
  have kq1 : Keep st q1 := by rw [hq1]; exact (((Keep.refl st).new' _).new' _).new' _
  have cq1 : q1.ctr = st.ctr + 3 := by rw [hq1]; rfl
  have bn1 : q1.box.get st.ctr = some (.cells [.int .i64 n] 3 true (some 0)) := by rw [hq1]; simp only [new_get, new_ctr]; simp; try omega
  have br1 : q1.box.get (st.ctr + 1) = some (.cells [.nils] 23 true (some 0)) := by rw [hq1]; simp only [new_get, new_ctr]; simp; try omega
  have be1 : q1.box.get (st.ctr + 2) = some (.cells [.int .i64 0] 26 true (some 0)) := by rw [hq1]; simp only [new_get, new_ctr]; simp; try omega
  have hfold : ({ ctr := st.ctr + 1 + 1 + 1, box := ((st.box.put st.ctr (.cells [.int .i64 n] 3 true (some 0))).put (st.ctr + 1) (.cells [.nils] 23 true (some 0))).put (st.ctr + 1 + 1) (.cells [.int .i64 0] 26 true (some 0)) } : St) = q1 := by rw [hq1]; rfl
  clear hq1
  obtain ⟨v, s1, hc, rfl, hk1⟩ := Says.use (wMayP_ok gl hh q1 x l hx hok hs hl) (by kernel_rfl)
  have bn2 := (hk1.box st.ctr (by omega)).trans bn1
  have br2 := (hk1.box (st.ctr + 1) (by omega)).trans br1
  have be2 := (hk1.box (st.ctr + 2) (by omega)).trans be1
  have cs1 := hk1.ctr
  have hm := mayP_iff (l := l)
  have lx := hx.len Tryz.underlying22
  generalize mayP l = M at hc hm hR
  refine DoK.seq ?_
  refine DoK.regG (gs := [none, none, none]) (by kernel_rfl) fun K1 gK => ?_
  simp (maxSteps := 1000000) (disch := omega) [hF, zs26, zs23, hfold, oneC]
  refine gK _ _ ?_
  clear gK K1
  refine DoK.seq ?_
  refine DoK.block fun K1 gn1 gx1 go1 => ?_
  have gr1 := fun fr st h => go1 AE.ret fr st trivial (gr fr st h)
  refine DoK.seq ?_
  refine DoK.regG (gs := [none, none, none, none]) (by kernel_rfl) fun K1 gK => ?_
  simp (maxSteps := 1000000) (disch := omega) [hF, hc]
  refine gK _ _ ?_
  clear gK K1
  obtain ⟨sA, sB, w1, w2, g1, g2, gc, _, _, go⟩ := two (s := s1) (a := st.ctr + 1) (b := st.ctr + 2) (v := .nils) (w := .int .i64 4) (by omega) br2 be2 rfl rfl
  obtain ⟨tA, tB, x1, x2, f1, f2, fc, _, _, fo⟩ := two (s := s1) (a := st.ctr + 1) (b := st.ctr + 2) (v := .nils) (w := .int .i64 1) (by omega) br2 be2 rfl rfl
  have ln := vload_of (P := Tryz.prog) (off := 0) a3 z3 bn2 rfl
  have kq2 := kq1.trans hk1
  have keepB : ∀ s' : St, s'.ctr = s1.ctr → (∀ i, i ≠ st.ctr + 1 → i ≠ st.ctr + 2 → s'.box.get i = s1.box.get i) → Keep st s' := fun s' h1 h2 => ⟨by have := kq2.ctr; omega, fun i hi => by rw [h2 i (by omega) (by omega)]; exact kq2.box i hi⟩
  have e12 : st.ctr + 1 + 1 = st.ctr + 2 := rfl
  cases M with
  | true =>
    refine DoK.condF (by simp (maxSteps := 1000000) (disch := omega) [e12]) ?_
    have hmf := hm.1 rfl
    by_cases h0 : n < 0
    ·
      refine DoK.seq ?_
      refine DoK.regG (gs := [none, none, none, some (some 14, false), some (some 14, false), some (some 14, false), some (some 14, false), none, none]) (by kernel_rfl) fun K1 gK => ?_
      simp (maxSteps := 1000000) (disch := omega) [ln, e12, h0, vbin_lss]
      refine gK _ _ ?_
      clear gK K1
      refine DoK.condT (by simp (maxSteps := 1000000) (disch := omega) []) ?_
      refine DoK.seq ?_
      refine DoK.regG (gs := [none, none]) (by kernel_rfl) fun K1 gK => ?_
      simp (maxSteps := 1000000) (disch := omega) [x1, x2]
      refine gK _ _ ?_
      clear gK K1
      refine DoK.ret (gr1 _ _ ?_)
      simp [EndsM, Tryz.f11, hF, marks, f1, f2]
      refine hR _ _ ?_
      exact ⟨⟨.nils, by simp [placeE, show ¬ 0 ≤ n by omega], by simp [placeS, show ¬ 0 ≤ n by omega]; exact .nils⟩, keepB _ fc fo⟩
    ·
      by_cases h1 : (l.length : Int) ≤ n
      ·
        refine DoK.seq ?_
        refine DoK.regG (gs := [none, none, none, some (some 14, false), some (some 14, false), some (some 14, false), some (some 14, false), none, none]) (by kernel_rfl) fun K1 gK => ?_
        simp (maxSteps := 1000000) (disch := omega) [hF, lx, ln, e12, h0, h1, vbin_lss, vbin_geq]
        refine gK _ _ ?_
        clear gK K1
        refine DoK.condT (by simp (maxSteps := 1000000) (disch := omega) []) ?_
        refine DoK.seq ?_
        refine DoK.regG (gs := [none, none]) (by kernel_rfl) fun K1 gK => ?_
        simp (maxSteps := 1000000) (disch := omega) [x1, x2]
        refine gK _ _ ?_
        clear gK K1
        refine DoK.ret (gr1 _ _ ?_)
        simp [EndsM, Tryz.f11, hF, marks, f1, f2]
        refine hR _ _ ?_
        exact ⟨⟨.nils, by simp [placeE, show ¬ n < (l.length : Int) by omega], by simp [placeS, show ¬ n < (l.length : Int) by omega]; exact .nils⟩, keepB _ fc fo⟩
      ·
        obtain ⟨n0, rfl⟩ := Int.eq_ofNat_of_zero_le (show 0 ≤ n by omega)
        have hn0 : n0 < l.length := by omega
        obtain ⟨y, hy1, hy2⟩ := hall hmf n0 hn0
        have hrun := seek_run (n := n0) (tour l l.length 0 [])
        rw [hy1] at hrun
        simp only at hrun
        obtain ⟨v, s2, hcb, rfl, hs2⟩ := Says.use (below_ok gl s1 x (.int .i64 0) .nils hx.cells1 hx.one rfl rfl) (by kernel_rfl)
        have k2 : Keep s1 s2 := by rw [hs2]; exact ((Keep.refl s1).new' _).new' _
        have c2 : s2.ctr = s1.ctr + 2 := by rw [hs2]; rfl
        have bxx2 : s2.box.get (s1.ctr + 1) = some (.cells [.int .i64 0, .nils] 47 true (some 0)) := by rw [hs2, new_get, if_pos (show s1.ctr + 1 = (s1.new (.cells [x] 22 true (some 0))).ctr from rfl)]
        have bll2 : s2.box.get s1.ctr = some (.cells [x] 22 true (some 0)) := by rw [hs2, new_get, if_neg (by rw [new_ctr]; omega), new_get, if_pos rfl]
        clear hs2
        have bn3 := (k2.box st.ctr (by omega)).trans bn2
        have br3 := (k2.box (st.ctr + 1) (by omega)).trans br2
        have be3 := (k2.box (st.ctr + 2) (by omega)).trans be2
        refine DoK.seq ?_
        refine DoK.regG (gs := [none, none, none, some (some 14, false), some (some 14, false), some (some 14, false), some (some 14, false), none, none]) (by kernel_rfl) fun K1 gK => ?_
        simp (maxSteps := 1000000) (disch := omega) [hF, lx, ln, e12, h0, h1, vbin_lss, vbin_geq]
        refine gK _ _ ?_
        clear gK K1
        refine DoK.condF (by simp (maxSteps := 1000000) (disch := omega) []) ?_
        refine DoK.skip ?_
        refine gn1 _ _ ?_
        refine DoK.seq ?_
        refine DoK.seq ?_
        refine DoK.regG (gs := [none, none, none]) (by kernel_rfl) fun K1 gK => ?_
        simp (maxSteps := 1000000) (disch := omega) [hF, bz47, hcb, evParts]
        refine gK _ _ ?_
        clear gK K1
        refine DoK.block fun K2 gn2 gx2 go2 => ?_
        have gr2 := fun fr st h => go2 AE.ret fr st trivial (gr fr st h)
        refine DoK.gen (fun fr => FsD [] gl [(3, .ptr st.ctr 0), (4, .ptr (st.ctr + 1) 0), (5, .ptr (st.ctr + 2) 0), (22, .fn 45 [] [.ptr (s1.ctr + 1) 0, .ptr s1.ctr 0])] fr) (by simp [FsD, hF]) ?_
        clear hF
        rintro fr hF
        simp only [FsD] at hF
        have hProd := prod_ok gl x l hx hok hs hl hmf l.length 0 [] hmf.pos (Nat.zero_le _) (by omega)
        let G : Option (List S × V) → Nat → Prop := fun s i => i = st.ctr ∨ i = st.ctr + 1 ∨ i = st.ctr + 2 ∨ match s with
          | some (_, y) => vid y i
          | none => False
        let J : Option (List S × V) → Bool → St → Prop := fun s b st' => st.ctr + 3 ≤ st'.ctr ∧ st'.box.get st.ctr = some (.cells [.int .i64 (n0 : Int)] 3 true (some 0)) ∧ st'.box.get (st.ctr + 2) = some (.cells [.int .i64 0] 26 true (some 0)) ∧ match s with
          | some (p, y) => b = true ∧ st'.box.get (st.ctr + 1) = some (.cells [y] 23 true (some 0)) ∧ Mine (st.ctr + 3) 9 st' y (p.map .str)
          | none => b = false ∧ st'.box.get (st.ctr + 1) = some (.cells [.nils] 23 true (some 0))
        have hlow : ∀ s b st', J s b st' → ∀ i, G s i → i < st'.ctr := fun s b st' h i hi => by
          obtain ⟨h1, h2, h3, h4⟩ := h
          rcases hi with rfl | rfl | rfl | hi
          · omega
          · omega
          · omega
          · cases s with
            | none => exact hi.elim
            | some q => exact (h4.2.2.vid_lt hi).2
        have hstab : ∀ s b st1 st2, J s b st1 → st1.ctr ≤ st2.ctr → (∀ i, G s i → st2.box.get i = st1.box.get i) → J s b st2 := fun s b st1 st2 h hc hb => by
          obtain ⟨h1, h2, h3, h4⟩ := h
          refine ⟨by omega, by rw [hb _ (.inl rfl)]; exact h2, by rw [hb _ (.inr (.inr (.inl rfl)))]; exact h3, ?_⟩
          cases s with
          | none => exact ⟨h4.1, by rw [hb _ (.inr (.inl rfl))]; exact h4.2⟩
          | some q => exact ⟨h4.1, by rw [hb _ (.inr (.inl rfl))]; exact h4.2.1, h4.2.2.stab hc fun i hi => hb i (.inr (.inr (.inr hi)))⟩
        have cs2 := k2.ctr
        refine tourRange hProd (pre := fun _ _ => True) (obs := fun s => s.map (·.1)) (step := seekS n0) (G := G) hlow hstab (s := none) (goodAll _ _) (dst := 6) (xb := s1.ctr + 1) (lb := s1.ctr) (by simp [hF]) ⟨by omega, bn3, be3, rfl, br3⟩ (by omega) (by omega) (by rintro (h | h | h | h) <;> first | omega | exact h) (by rintro (h | h | h | h) <;> first | omega | exact h) bxx2 bll2 .nils trivial
          (fun fr' => fr'.at 3 = .ptr st.ctr 0 ∧ fr'.at 4 = .ptr (st.ctr + 1) 0 ∧ fr'.at 5 = .ptr (st.ctr + 2) 0 ∧ fr'.ds = [] ∧ fr'.gl = gl) (fun v => ⟨by rw [at_bind, if_neg (by decide)]; exact hF.1, by rw [at_bind, if_neg (by decide)]; exact hF.2.1, by rw [at_bind, if_neg (by decide)]; exact hF.2.2.1, rfl, rfl⟩) (by simp [hF]) ?_ ?_ ?_ ?_
        · as_aux_lemma =>
          intro id' fr' st' a pv' K hoa hop h23 hΦ hk
          obtain ⟨h3, h4, h5, hd, hg⟩ := hΦ
          have hF : fr'.at 23 = .agg [a, pv'] ∧ fr'.at 3 = .ptr st.ctr 0 ∧ fr'.at 4 = .ptr (st.ctr + 1) 0 ∧ fr'.at 5 = .ptr (st.ctr + 2) 0 ∧ fr'.ds = [] ∧ fr'.gl = gl := ⟨h23, h3, h4, h5, hd, hg⟩
          have ga : ({ ctr := st'.ctr + 1, box := st'.box.put st'.ctr (.cells [.int .i64 0, .nils] 47 true (some 0)) } : St).box.get st'.ctr = some (.cells [.int .i64 0, .nils] 47 true (some 0)) := by simp [Tr.get_put]
          have wa := vstore47 hoa hop ga
          refine DoK.regG (gs := [none, none]) (by kernel_rfl) fun K1 gK => ?_
          simp (maxSteps := 1000000) (disch := omega) [hF, zs47, wa, oneC]
          refine gK _ _ ?_
          clear gK K1
          exact hk _ _ (by simp) ⟨by simp [hF], by simp [hF], by simp [hF], by simp [hF], by simp [hF]⟩ rfl (fun i hi => by rw [put_get, if_neg hi]; show (st'.box.put st'.ctr _).get i = _; rw [Tr.get_put, if_neg hi]) (by rw [put_get, if_pos rfl])
        · as_aux_lemma =>
          intro id' fr' s st' y pv' nb K hΦ h6 hJ hnb hnG hnc hv' hap' hpl _ hkt hkf
          obtain ⟨h3, h4, h5, hd, hg⟩ := hΦ
          obtain ⟨j1, j2, j3, j4⟩ := hJ
          have hF : fr'.at 6 = .ptr nb 0 ∧ fr'.at 3 = .ptr st.ctr 0 ∧ fr'.at 4 = .ptr (st.ctr + 1) 0 ∧ fr'.at 5 = .ptr (st.ctr + 2) 0 ∧ fr'.ds = [] ∧ fr'.gl = gl := ⟨h6, h3, h4, h5, hd, hg⟩
          obtain rfl : s = none := by
            cases s with
            | none => rfl
            | some q => exact absurd j4.1 (by decide)
          have j4 := j4.2
          have la := vload_of (P := Tryz.prog) (T := 3) (off := 0) a3 z3 hnb rfl
          have lb' := vload_of (P := Tryz.prog) (T := 23) (off := 1) a23 z23 hnb rfl
          have lc := vload_of (P := Tryz.prog) (off := 0) a3 z3 j2 rfl
          obtain ⟨v, q2, hcl, hmine, hkq⟩ := Says.use (clone_ok gl st' pv' y.2 hv' (by omega)) (by kernel_rfl)
          obtain ⟨sC, sD, u1, u2, _, _, uc, ua, ub, uo⟩ := two (s := q2) (a := st.ctr + 1) (b := st.ctr + 2) (v := v) (w := .int .i64 0) (by omega) (by rw [hkq.box _ (by omega)]; exact j4) (by rw [hkq.box _ (by omega)]; exact j3) hmine.sim rfl
          have gq : ∀ fr st2, st2 = sD ∧ decide (y.1 = n0) = true → K .ret fr st2 := fun fr st2 h => by
            rw [h.1]
            have hcq := hkq.ctr
            refine hkf fr sD (some (y.2, v)) (by simp only [seekS, h.2]; rfl) (by simp only [seekS, h.2]; rfl) ⟨by omega, by rw [uo _ (by omega) (by omega), hkq.box _ (by omega)]; exact j2, ub, rfl, ua, ?_⟩ ⟨by omega, fun i hi hn => ?_⟩ fun i hi => ?_
            · refine (hmine.low (by omega)).stab (by omega) fun i hi => uo i ?_ ?_
              · have := (hmine.vid_lt hi).1; omega
              · have := (hmine.vid_lt hi).1; omega
            · rw [uo i (fun e => hn (.inr (.inl e))) (fun e => hn (.inr (.inr (.inl e)))), hkq.box i hi]
            · rcases hi with hi | hi | hi | hi
              · exact .inl (.inl hi)
              · exact .inl (.inr (.inl hi))
              · exact .inl (.inr (.inr (.inl hi)))
              · exact .inr (hmine.vid_lt hi).1
          refine DoK.block fun K3 gn3 gx3 go3 => ?_
          have gr3 := fun fr st h => go3 AE.ret fr st trivial (gq fr st h)
          refine DoK.seq ?_
          refine DoK.regG (gs := [none, none, none, none]) (by kernel_rfl) fun K1 gK => ?_
          simp (maxSteps := 1000000) (disch := omega) [hF, la, lc]
          refine gK _ _ ?_
          clear gK K1
          by_cases hyn : y.1 = n0
          ·
            refine DoK.condT (by simp (maxSteps := 1000000) (disch := omega) [hyn]) ?_
            refine DoK.seq ?_
            refine DoK.regG (gs := [none, none, none, none, none]) (by kernel_rfl) fun K1 gK => ?_
            simp (maxSteps := 1000000) (disch := omega) [hF, lb', hcl, u1, u2, hyn]
            refine gK _ _ ?_
            clear gK K1
            exact DoK.ret (gr3 _ _ ⟨rfl, decide_eq_true hyn⟩)
          ·
            refine DoK.condF (by simp (maxSteps := 1000000) (disch := omega) [hyn]) ?_
            refine DoK.skip ?_
            refine gn3 _ _ ?_
            exact hkt _ st' none (by simp only [seekS, decide_eq_false hyn]; rfl) (by simp only [seekS, decide_eq_false hyn]; rfl) ⟨j1, j2, j3, rfl, j4⟩ (.refl _ _) fun i hi => .inl hi
        · as_aux_lemma =>
          intro st2 s5 hr2 ho5 hI5 hO5 hS5 hmk5 hc5
          exact absurd (show (runC (seekS n0) none (tour l l.length 0 [])).2 = false from hr2) (by rw [hrun]; simp)
        · as_aux_lemma =>
          intro st2 s5 hr2 ho5 hI5 hO5 hS5 hmk5 hc5
          refine gr2 _ _ ?_
          have ho6 : s5.map (·.1) = some y.2 := by
            rw [ho5]
            show (runC (seekS n0) none (tour l l.length 0 [])).1 = _
            rw [hrun]
          obtain ⟨j1, j2, j3, j4⟩ := hI5
          cases s5 with
          | none => cases ho6
          | some q =>
            obtain ⟨_, j5, j6⟩ := j4
            have hqp : q.1 = y.2 := by simpa using ho6
            have hm1 : (st2.put s2.ctr (.mark true)).box.get (st.ctr + 1) = some (.cells [q.2] 23 true (some 0)) := by rw [put_get, if_neg (by omega)]; exact j5
            have hm2 : (st2.put s2.ctr (.mark true)).box.get (st.ctr + 2) = some (.cells [.int .i64 0] 26 true (some 0)) := by rw [put_get, if_neg (by omega)]; exact j3
            have v1 := vload_of (P := Tryz.prog) (T := 23) (off := 0) a23 z23 hm1 rfl
            have v2 := vload_of (P := Tryz.prog) (T := 26) (off := 0) a26 z26 hm2 rfl
            refine ⟨.inl rfl, st2.put s2.ctr (.mark true), ?_, [q.2, .int .i64 0], ?_, hR _ _ ⟨⟨q.2, ?_, ?_⟩, ?_⟩⟩
            · show marks (Df.mark s2.ctr :: fr.ds) st2 = _
              rw [hF.2.2.2.2.1]
              simp only [marks, hmk5]
            · have f4 : Fr.at ({ fr with ds := .mark s2.ctr :: fr.ds } : Fr) 4 = .ptr (st.ctr + 1) 0 := hF.2.1
              have f5 : Fr.at ({ fr with ds := .mark s2.ctr :: fr.ds } : Fr) 5 = .ptr (st.ctr + 2) 0 := hF.2.2.1
              simp [Tryz.f11, f4, f5, v1, v2]
            · simp [placeE, hn0]
            · rw [show placeS true l (n0 : Int) = q.1 from by rw [hqp, hy2]; simp [placeS, hn0]]
              refine (j6.low (by omega)).stab (Nat.le_refl _) fun i hi => ?_
              rw [put_get, if_neg]
              rintro rfl
              rcases hS5 _ (.inr (.inr (.inr hi))) with (h | h | h | h) | h
              · omega
              · omega
              · omega
              · exact h
              · omega
            · have hcc := hO5.ctr
              exact ⟨by rw [put_ctr]; omega, fun i hi => by
                rw [put_get, if_neg (by omega), hO5.box i (by omega) (by rintro (h | h | h | h) <;> first | omega | exact h), k2.box i (by omega), kq2.box i hi]⟩
  | false =>
    refine DoK.condT (by simp (maxSteps := 1000000) (disch := omega) [e12]) ?_
    refine DoK.seq ?_
    refine DoK.regG (gs := [none, none]) (by kernel_rfl) fun K1 gK => ?_
    simp (maxSteps := 1000000) (disch := omega) [e12, w1, w2]
    refine gK _ _ ?_
    clear gK K1
    refine DoK.ret (gr1 _ _ ?_)
    simp [EndsM, Tryz.f11, hF, marks, g1, g2]
    refine hR _ _ ?_
    exact ⟨⟨.nils, rfl, .nils⟩, keepB _ gc go⟩
end Go.Vm
namespace Go.Vm
open Go Go.Proofs Go.Pa
theorem up_uniq {l : List Fw} (hm : MayF l) {n : Nat} (hn : n < l.length) {k : Int} (hk : k ∈ l[n].kids) : upOf l k.toNat = n ∧ 1 ≤ k.toNat ∧ k.toNat < l.length ∧ ((k.toNat : Nat) : Int) = k := by
  have h1 := hm.kid n hn k hk
  have e : ((k.toNat : Nat) : Int) = k := Int.toNat_of_nonneg (by omega)
  have hc := hm.once k.toNat (by omega) (by omega)
  obtain ⟨u1, u2, ha, u3, hmem⟩ := upOf_lt hm (m := k.toNat) (by omega) (by omega)
  refine ⟨?_, by omega, by omega, e⟩
  rw [← occ_len] at hc
  match ho : occ l ((k.toNat : Nat) : Int), hc with
  | [a], _ =>
    have m1 : n ∈ occ l ((k.toNat : Nat) : Int) := occ_mem.2 ⟨hn, by rw [e]; exact hk⟩
    have m2 : upOf l k.toNat ∈ occ l ((k.toNat : Nat) : Int) := occ_mem.2 ⟨u3, hmem⟩
    rw [ho] at m1 m2
    simp at m1 m2
    omega
theorem count_two {L : List Int} {k : Int} {i j : Nat} (hij : i < j) (hj : j < L.length) (h1 : L[i]'(by omega) = k) (h2 : L[j] = k) : 2 ≤ L.count k := by
  have e : L = L.take j ++ L.drop j := (List.take_append_drop j L).symm
  rw [e, List.count_append]
  have a : 1 ≤ (L.take j).count k := List.one_le_count_iff.2 (by
    rw [List.mem_iff_getElem]
    exact ⟨i, by simp; omega, by simp [h1]⟩)
  have b : 1 ≤ (L.drop j).count k := List.one_le_count_iff.2 (by
    rw [List.mem_iff_getElem]
    exact ⟨0, by simp; omega, by simp [h2]⟩)
  omega
theorem count_kids {l : List Fw} {n : Nat} (hn : n < l.length) (k : Int) : l[n].kids.count k ≤ (kidsL l).count k := by
  have e : l = l.take n ++ l[n] :: l.drop (n + 1) := by rw [← List.drop_eq_getElem_cons hn, List.take_append_drop]
  have : kidsL l = kidsL (l.take n) ++ (l[n].kids ++ kidsL (l.drop (n + 1))) := by
    unfold kidsL
    rw [← List.flatMap_cons, ← List.flatMap_append, ← e]
  rw [this, List.count_append, List.count_append]
  omega
theorem idx_uniq {l : List Fw} (hm : MayF l) {n : Nat} (hn : n < l.length) {i j : Nat} (hi : i < l[n].kids.length) (hj : j < l[n].kids.length) (h : l[n].kids[i] = l[n].kids[j]) : i = j := by
  obtain ⟨_, h1, h2, e⟩ := up_uniq hm hn (List.getElem_mem hj)
  have hc := hm.once _ h1 h2
  rw [e] at hc
  have hk := count_kids hn (l[n].kids[j])
  rcases Nat.lt_trichotomy i j with hl | hl | hl
  · have := count_two hl hj h rfl; omega
  · exact hl
  · have := count_two hl hi rfl h; omega
theorem name_at {l : List Fw} (hm : MayF l) {n j : Nat} (hn : n < l.length) (hj : j < l[n].kids.length) (hj' : j < l[n].names.length) : nameOf l[n] l[n].kids[j] = l[n].names[j] :=
  nameOf_at hj (fun i hi hij he => by have := idx_uniq hm hn hi hj he; omega) rfl hj'
theorem place_kid {l : List Fw} (hm : MayF l) {n j : Nat} (hn : n < l.length) (hj : j < l[n].kids.length) (hj' : j < l[n].names.length) : placeL l l[n].kids[j].toNat = placeL l n ++ [l[n].names[j]] := by
  obtain ⟨hu, h1, h2, e⟩ := up_uniq hm hn (List.getElem_mem hj)
  rw [placeL_step hm h1 h2]
  have hg : ∀ (m : Nat) (h : m < l.length), m = n → nameOf (l[m]'h) ((l[n].kids[j].toNat : Nat) : Int) = l[n].names[j] := fun m h hmn => by
    subst hmn
    rw [e]; exact name_at hm hn hj hj'
  rw [hg _ _ hu, hu]
theorem tour_place {l : List Fw} (hm : MayF l) : ∀ (d n : Nat) (y : Nat × List S), n < l.length → y ∈ tour l d n (placeL l n) → y.2 = placeL l y.1
  | 0, n, y, _, h => by simp [tour] at h
  | d + 1, n, y, hn, h => by
    simp only [tour, List.getElem?_eq_getElem hn, List.mem_cons] at h
    rcases h with rfl | h
    · rfl
    · rw [List.mem_flatMap] at h
      obtain ⟨q, hq, hy⟩ := h
      obtain ⟨j, hj, rfl⟩ := List.getElem_of_mem hq
      have hj1 : j < l[n].kids.length := by simp at hj; omega
      have hj2 : j < l[n].names.length := by simp at hj; omega
      rw [List.getElem_zip] at hy
      simp only at hy
      rw [← place_kid hm hn hj1 hj2] at hy
      exact tour_place hm d _ y (up_uniq hm hn (List.getElem_mem hj1)).2.2.1 hy
def cntT (m : Nat) (L : List (Nat × List S)) : Nat := L.countP fun y => decide (y.1 = m)
theorem cntT_app (m : Nat) (a b : List (Nat × List S)) : cntT m (a ++ b) = cntT m a + cntT m b := by simp [cntT]
theorem cnt_flat {α : Type} (m : Nat) (f : α → List (Nat × List S)) : ∀ L : List α, cntT m (L.flatMap f) = (L.map fun q => cntT m (f q)).sum
  | [] => rfl
  | a :: L => by rw [List.flatMap_cons, cntT_app, cnt_flat m f L]; simp
theorem sum_add {α : Type} (f g : α → Nat) : ∀ L : List α, (L.map fun q => f q + g q).sum = (L.map f).sum + (L.map g).sum
  | [] => rfl
  | a :: L => by simp only [List.map_cons, List.sum_cons, sum_add f g L]; omega
theorem sum_ind (m : Nat) : ∀ (ks : List Int) (ns : List S), ks.length = ns.length → (∀ k ∈ ks, 0 ≤ k) → ((ks.zip ns).map fun q => if q.1.toNat = m then 1 else 0).sum = ks.count (m : Int)
  | [], _, _, _ => by simp
  | k :: ks, n :: ns, h, h0 => by
    rw [List.zip_cons_cons, List.map_cons, List.sum_cons, sum_ind m ks ns (by simpa using h) (fun x hx => h0 x (by simp [hx])), List.count_cons]
    have := h0 k (by simp)
    by_cases hk : k = (m : Int)
    · subst hk; simp; omega
    · have : ¬ k.toNat = m := by omega
      simp [hk, this]
theorem kid_count {l : List Fw} (hm : MayF l) {n m : Nat} (hn : n < l.length) (h1 : 1 ≤ m) (h2 : m < l.length) : l[n].kids.count (m : Int) = if n = upOf l m then 1 else 0 := by
  have hle := count_kids hn (m : Int)
  rw [hm.once m h1 h2] at hle
  by_cases h : n = upOf l m
  · rw [if_pos h]
    obtain ⟨_, _, _, u3, hmem⟩ := upOf_lt hm h1 h2
    have : (m : Int) ∈ l[n].kids := by
      subst h; exact hmem
    have := List.one_le_count_iff.2 this
    omega
  · rw [if_neg h, List.count_eq_zero]
    intro hk
    exact h ((up_uniq hm hn hk).1).symm
theorem tour_cnt {l : List Fw} (hm : MayF l) {m : Nat} (h1 : 1 ≤ m) (h2 : m < l.length) : ∀ (d n : Nat) (p : List S), n < l.length → l.length - n ≤ d → cntT m (tour l d n p) = (if n = m then 1 else 0) + cntT (upOf l m) (tour l d n p)
  | 0, n, p, hn, hd => by omega
  | d + 1, n, p, hn, hd => by
    have hcons : ∀ m, cntT m (tour l (d + 1) n p) = (if n = m then 1 else 0) + cntT m ((l[n].kids.zip l[n].names).flatMap fun q => tour l d q.1.toNat (p ++ [q.2])) := fun m => by
      simp only [tour, List.getElem?_eq_getElem hn]
      rw [← List.singleton_append, cntT_app]
      congr 1
      simp [cntT, List.countP_cons]
    have hlen := oneB_len (hm.one n hn)
    rw [hcons m, hcons (upOf l m)]
    have hstep : cntT m ((l[n].kids.zip l[n].names).flatMap fun q => tour l d q.1.toNat (p ++ [q.2])) = l[n].kids.count (m : Int) + cntT (upOf l m) ((l[n].kids.zip l[n].names).flatMap fun q => tour l d q.1.toNat (p ++ [q.2])) := by
      rw [cnt_flat, cnt_flat, ← sum_ind m l[n].kids l[n].names hlen.symm (fun k hk => by have := hm.kid n hn k hk; omega), ← sum_add]
      congr 1
      apply List.map_congr_left
      intro q hq
      have hk := hm.kid n hn q.1 (List.of_mem_zip hq).1
      exact tour_cnt hm h1 h2 d _ _ (by omega) (by omega)
    rw [hstep, kid_count hm hn h1 h2]
theorem tour_once {l : List Fw} (hm : MayF l) : ∀ m, m < l.length → cntT m (tour l l.length 0 []) = 1 := by
  intro m
  induction m using Nat.strongRecOn with
  | _ m ih =>
    intro h
    by_cases h0 : m = 0
    · subst h0
      have hp := hm.pos
      obtain ⟨d, hd⟩ : ∃ d, l.length = d + 1 := ⟨l.length - 1, by omega⟩
      rw [hd]
      simp only [tour, List.getElem?_eq_getElem hp]
      rw [← List.singleton_append, cntT_app]
      have hz : cntT 0 ((l[0].kids.zip l[0].names).flatMap fun q => tour l d q.1.toNat ([] ++ [q.2])) = 0 := by
        unfold cntT
        rw [List.countP_eq_zero]
        intro y hy
        rw [List.mem_flatMap] at hy
        obtain ⟨q, hq, hy⟩ := hy
        have hk := hm.kid 0 hp q.1 (List.of_mem_zip hq).1
        have := (tour_ge hm d _ _ y hy).1
        simp; omega
      rw [hz]
      simp [cntT]
    · rw [tour_cnt hm (by omega) h l.length 0 [] hm.pos (by omega), if_neg (by omega)]
      obtain ⟨u1, u2, _, _⟩ := upOf_lt hm (by omega) h
      rw [ih _ u1 u2]
theorem tour_find {l : List Fw} (hm : MayF l) (m : Nat) (h : m < l.length) : ∃ y, (tour l l.length 0 []).find? (fun y => decide (y.1 = m)) = some y ∧ y.2 = placeL l m := by
  cases hf : (tour l l.length 0 []).find? (fun y => decide (y.1 = m)) with
  | none =>
    exfalso
    have h1 := tour_once hm m h
    have h2 : cntT m (tour l l.length 0 []) = 0 := by
      unfold cntT
      rw [List.countP_eq_zero]
      intro y hy
      exact List.find?_eq_none.1 hf y hy
    omega
  | some y =>
    refine ⟨y, rfl, ?_⟩
    have h1 := List.find?_some hf
    have h2 := List.mem_of_find?_eq_some hf
    rw [tour_place hm l.length 0 y hm.pos h2, of_decide_eq_true h1]
theorem len_of_once : ∀ (N : Nat) (L : List (Nat × List S)), (∀ y ∈ L, y.1 < N) → (∀ m, m < N → cntT m L = 1) → L.length = N
  | 0, [], _, _ => rfl
  | 0, y :: L, h, _ => by have := h y (by simp); omega
  | N + 1, L, h, hc => by
    have hlen : L.length = cntT N L + (L.filter fun y => !decide (y.1 = N)).length := by
      unfold cntT
      rw [List.countP_eq_length_filter]
      have : ∀ L : List (Nat × List S), L.length = (L.filter fun y => decide (y.1 = N)).length + (L.filter fun y => !decide (y.1 = N)).length := fun L => by
        induction L with
        | nil => rfl
        | cons z L ih =>
          by_cases hz : z.1 = N
          · rw [List.filter_cons_of_pos (by simpa using hz), List.filter_cons_of_neg (by simpa using hz), List.length_cons, List.length_cons]; omega
          · rw [List.filter_cons_of_neg (by simpa using hz), List.filter_cons_of_pos (by simpa using hz), List.length_cons, List.length_cons]; omega
      exact this L
    have ih := len_of_once N (L.filter fun y => !decide (y.1 = N)) (fun y hy => by
      rw [List.mem_filter] at hy
      have := h y hy.1
      have h3 : ¬ y.1 = N := by simpa using hy.2
      omega) (fun m hm => by
      rw [← hc m (by omega)]
      unfold cntT
      rw [List.countP_filter]
      apply List.countP_congr
      intro y _
      simp only [Bool.and_eq_true, decide_eq_true_eq, Bool.not_eq_true', decide_eq_false_iff_not]
      constructor
      · exact fun h => h.1
      · exact fun h => ⟨h, by omega⟩)
    rw [hlen, ih, hc N (by omega)]
    omega
theorem tour_len {l : List Fw} (hm : MayF l) : (tour l l.length 0 []).length = l.length :=
  len_of_once _ _ (fun y hy => (tour_ge hm _ _ _ y hy).2 hm.pos) (tour_once hm)
theorem find_app {l : List Fw} : ∀ (p q : List S) (n : Nat), findL l n (p ++ q) = match findL l n p with
    | some m => findL l m q
    | none => none
  | [], q, n => rfl
  | s :: p, q, n => by
    simp only [List.cons_append, findL]
    cases l[n]? with
    | none => rfl
    | some f =>
      simp only
      cases stepF f s with
      | none => rfl
      | some k => exact find_app p q k.toNat
theorem find_place {l : List Fw} (hm : MayF l) : ∀ m, m < l.length → findL l 0 (placeL l m) = some m := by
  intro m
  induction m using Nat.strongRecOn with
  | _ m ih =>
    intro h
    by_cases h0 : m = 0
    · subst h0; rfl
    · obtain ⟨u1, u2, _, _, hmem⟩ := upOf_lt hm (by omega) h
      rw [placeL_step hm (by omega) h, find_app, ih _ u1 u2]
      simp only [findL, List.getElem?_eq_getElem u2]
      obtain ⟨j, hj, hjk⟩ := List.getElem_of_mem hmem
      have hlen := oneB_len (hm.one _ u2)
      have hn := name_at hm u2 hj (by omega)
      rw [hjk] at hn
      rw [hn, stepF_yes (oneB_sorted (hm.one _ u2)) hlen (by omega : j < l[upOf l m].names.length) (same_self _), hjk]
      simp
theorem same_trans {a b c : S} (h : a.same b = true) (k : b.same c = true) : a.same c = true := by rw [S.same_eq, same_toList h, same_toList k]; simp
theorem all2_same_refl : ∀ l : List S, all2 S.same l l = true
  | [] => rfl
  | a :: l => by rw [all2, same_self, all2_same_refl l]; rfl
theorem all2_same_trans : ∀ {a b c : List S}, all2 S.same a b = true → all2 S.same b c = true → all2 S.same a c = true
  | [], [], [], _, _ => rfl
  | [], [], _ :: _, _, h => by cases h
  | [], _ :: _, _, h, _ => by cases h
  | _ :: _, [], _, h, _ => by cases h
  | _ :: _, _ :: _, [], _, h => by cases h
  | a :: x, b :: y, c :: z, h, k => by
    simp only [all2, Bool.and_eq_true] at h k ⊢
    exact ⟨same_trans h.1 k.1, all2_same_trans h.2 k.2⟩
theorem all2_app {α : Type} {p : α → α → Bool} : ∀ {a b c d : List α}, all2 p a b = true → all2 p c d = true → all2 p (a ++ c) (b ++ d) = true
  | [], [], _, _, _, h => h
  | [], _ :: _, _, _, h, _ => by cases h
  | _ :: _, [], _, _, h, _ => by cases h
  | a :: x, b :: y, c, d, h, k => by
    simp only [List.cons_append, all2, Bool.and_eq_true] at h ⊢
    exact ⟨h.1, all2_app h.2 k⟩
theorem place_find {l : List Fw} (hm : MayF l) : ∀ (p : List S) (n m : Nat), n < l.length → findL l n p = some m → m < l.length ∧ all2 S.same (placeL l m) (placeL l n ++ p) = true
  | [], n, m, hn, h => by
    simp only [findL, Option.some.injEq] at h
    subst h
    exact ⟨hn, by rw [List.append_nil]; exact all2_same_refl _⟩
  | s :: p, n, m, hn, h => by
    rw [findL_at hn] at h
    cases hs : stepF l[n] s with
    | none => rw [hs] at h; cases h
    | some k =>
      rw [hs] at h
      simp only at h
      have hlen := oneB_len (hm.one n hn)
      have hx : ∃ j, ∃ hj : j < l[n].names.length, l[n].names[j].same s = true ∧ ∃ hj' : j < l[n].kids.length, l[n].kids[j] = k := by
        unfold stepF at hs
        split at hs
        · rename_i i hi
          rw [List.findIdx?_eq_some_iff_getElem] at hi
          obtain ⟨hi1, hi2, _⟩ := hi
          rw [List.getElem?_eq_getElem (by omega : i < l[n].kids.length)] at hs
          exact ⟨i, hi1, hi2, by omega, Option.some.inj hs⟩
        · cases hs
      obtain ⟨j, hj, hsj, hj', rfl⟩ := hx
      obtain ⟨_, _, hk2, _⟩ := up_uniq hm hn (List.getElem_mem hj')
      obtain ⟨h1, h2⟩ := place_find hm p _ m hk2 h
      refine ⟨h1, all2_same_trans h2 ?_⟩
      rw [place_kid hm hn hj' hj, List.append_assoc]
      refine all2_app (all2_same_refl _) ?_
      simp only [List.singleton_append, all2, hsj, all2_same_refl, Bool.and_self]
end Go.Vm
namespace Go.Vm
open Go Go.Proofs Go.Pa
attribute [local simp] OkG xOpsG wantG OkD OkRuns xOps xDrawL vwanted isDefer vop kindOf vpure ev evs toV atTo_some Fr.dsTo Fr.glTo Fr.toNone initFr_at initFr_ds initFr_gl veff vact traverse tupled vresult V.undef evOpt sameIn nn_eql nn_neq nn_lss nn_leq nn_gtr nn_geq nl_eql nl_neq nl_lss nl_leq nl_gtr nl_geq vbin_seql vbin_sneq vload_ctr vbin_add vbin_sub wrap_i64 veq_str veq_int fcp0 fcp1 fcp2 fcp3 fcp4 fcp5 fg0 fg1 fg2 fg3 fg4 fg5 fh0 fh1 valloc mkRef cells_agg cells_int cells_nils
def escB (b : UInt8) : List UInt8 := if b = 10 then [92, 110] else if b = 92 then [92, 92] else [b]
def esc (l : List UInt8) : List UInt8 := l.flatMap escB
def pathB (p : List S) : List UInt8 := match p with
  | [] => [47]
  | p => p.flatMap fun s => 47 :: s.toList
def digT : Nat → Nat → List UInt8
  | 0, _ => []
  | d + 1, n => (if n / 10 = 0 then [] else digT d (n / 10)) ++ [UInt8.ofNat (48 + n % 10)]
def digB (n : Nat) : List UInt8 := digT (n + 1) n
def sayB (f : Fw) : List UInt8 :=
  cond (!f.known) [97, 110, 121] <| cond (decide (f.kind = 0)) [97, 98, 115, 101, 110, 116] <| cond (decide (f.kind = 1)) [102, 105, 108, 101] <| cond (decide (f.kind = 3)) [108, 105, 110, 107] <|
  cond (decide (f.rest = 1)) ([100, 105, 114, 32, 119, 104, 111, 108, 101]) <| cond (decide (f.rest = 2)) ([100, 105, 114, 32, 109, 111, 114, 101, 32] ++ digB f.beside.toNat) [100, 105, 114]
def lineB (f : Fw) (p : List S) : List UInt8 := esc (pathB p) ++ [58, 32] ++ sayB f
def lineL (l : List Fw) (y : Nat × List S) : List UInt8 := match l[y.1]? with
  | some f => lineB f y.2
  | none => []
theorem esc_app (a b : List UInt8) : esc (a ++ b) = esc a ++ esc b := by simp [esc]
theorem esc_len : ∀ l : List UInt8, (esc l).length ≤ 2 * l.length
  | [] => Nat.le_refl _
  | a :: l => by
    have := esc_len l
    have h1 : (escB a).length ≤ 2 := by
      unfold escB
      split
      · simp
      · split <;> simp
    rw [show esc (a :: l) = escB a ++ esc l from by simp [esc], List.length_append, List.length_cons]; omega
theorem take_s (s : S) {i : Nat} (h : i < s.n) : s.toList.take (i + 1) = s.toList.take i ++ [UInt8.ofNat (s.at i)] := by
  have h1 := s.toList_at h
  have h2 : i < s.toList.length := by rw [S.len]; exact h
  rw [List.take_add_one, h1]; rfl
theorem app_n (a b : S) : (a.app b).n = a.n + b.n := rfl
theorem ofList_n (l : List UInt8) : (S.ofList l).n = l.length := rfl
theorem escB_10 : escB (UInt8.ofNat 10) = [92, 110] := rfl
theorem escB_92 : escB (UInt8.ofNat 92) = [92, 92] := rfl
theorem escB_else {c : Nat} (hc : c < 256) (h1 : ¬ c = 10) (h2 : ¬ c = 92) : escB (UInt8.ofNat c) = [UInt8.ofNat c] := by
  have e1 : ¬ UInt8.ofNat c = 10 := fun h => h1 ((byte_eq hc (by decide : 10 < 256)).1 h)
  have e2 : ¬ UInt8.ofNat c = 92 := fun h => h2 ((byte_eq hc (by decide : 92 < 256)).1 h)
  unfold escB
  rw [if_neg e1, if_neg e2]
theorem cut_at {s : S} {i : Nat} (h : i < s.n) : (s.cut i (i + 1)).toList = [UInt8.ofNat (s.at i)] := by
  rw [S.toList_cut s (by omega) (by omega), S.drop_at s h]
  simp
variable [Memo] [NY]
set_option maxRecDepth 100000 in
theorem plain_ok (gl : Gl) (st : St) (s : S) (hs : s.n ≤ 100000) :
    Says Tryz.prog gl 54 [.str s] st (fun v st' => (∃ t : S, v = .str t ∧ t.toList = esc s.toList) ∧ Sm st st') := by
  refine saysK (NY.no _ rfl rfl rfl _ _) Tryz.func54 rfl (by kernel_rfl) fun R hR K gr gn => ?_
  generalize hfr : initFr gl [.str s] = fr
  have hF : Fs gl [(0, .str s)] fr := by subst hfr; simp [Fs]
  simp only [Fs] at hF
  clear hfr
  have ls := vlen_str Tryz.underlying9 (s := s)
  refine DoK.seq ?_
  refine DoK.regG (gs := [none]) (by kernel_rfl) fun K1 gK => ?_
  simp (maxSteps := 1000000) (disch := omega) []
  refine gK _ _ ?_
  clear gK K1
  refine DoK.seq ?_
  refine DoK.regG (gs := [none]) (by kernel_rfl) fun K1 gK => ?_
  simp (maxSteps := 1000000) (disch := omega) []
  refine gK _ _ ?_
  clear gK K1
  refine DoK.seq ?_
  refine DoK.seq ?_
  refine DoK.regG (gs := [none]) (by kernel_rfl) fun K1 gK => ?_
  simp (maxSteps := 1000000) (disch := omega) []
  refine gK _ _ ?_
  clear gK K1
  refine DoK.loop (s.n) (fun i fr st' => ∃ (acc : S), Fs gl [(0, .str s), (3, .str acc), (4, .int .i64 (i : Int))] fr ∧ i ≤ s.n ∧ acc.toList = esc (s.toList.take i) ∧ st = st') (0) (fun fr st' => ∃ (acc : S), Fs gl [(3, .str acc)] fr ∧ acc.toList = esc s.toList ∧ st = st') ?_ ?_ ?_ ?_
  · exact ⟨⟨0, 0⟩, by simp [Fs, hF, S.ofList, enc],  Nat.zero_le _, rfl, rfl⟩
  · rintro i fr st' ⟨acc, _, hi, hacc, rfl⟩
    omega
  · as_aux_lemma =>
    clear hF
    rintro i fr st' ⟨acc, hF, hi, hacc, rfl⟩ K1 gk1 gx1 go1
    simp only [Fs] at hF
    have gr1 := fun fr st h => go1 AE.ret fr st trivial (gr fr st h)
    refine DoK.seq ?_
    refine DoK.seq ?_
    refine DoK.regG (gs := [none, none, none, none]) (by kernel_rfl) fun K1 gK => ?_
    simp (maxSteps := 1000000) (disch := omega) [hF, ls]
    refine gK _ _ ?_
    clear gK K1
    by_cases hlt : i < s.n
    ·
      refine DoK.condT (by simp (maxSteps := 1000000) (disch := omega) [hlt]) ?_
      have hix := vindex_str (P := Tryz.prog) (k := .i64) Tryz.underlying9 hlt
      have han : acc.n ≤ 2 * i := by
        have h1 := congrArg List.length hacc
        have h2 := esc_len (s.toList.take i)
        rw [S.len] at h1
        rw [List.length_take, S.len] at h2
        omega
      have ad1 : ∀ kk, vbin Tryz.prog kk .add 9 (.str acc) (.str (S.ofList [92, 110])) = some (.str (acc.app (S.ofList [92, 110]))) := fun kk => vbin_sadd (by rw [ofList_n]; simp; omega)
      have ad2 : ∀ kk, vbin Tryz.prog kk .add 9 (.str acc) (.str (S.ofList [92, 92])) = some (.str (acc.app (S.ofList [92, 92]))) := fun kk => vbin_sadd (by rw [ofList_n]; simp; omega)
      have ad3 : ∀ kk, vbin Tryz.prog kk .add 9 (.str acc) (.str (s.cut i (i + 1))) = some (.str (acc.app (s.cut i (i + 1)))) := fun kk => vbin_sadd (by rw [cut_n]; omega)
      have hsl : vslice Tryz.prog 9 (.str s) (some (.int .i64 (i : Int))) (some (.int .i64 ((i : Int) + 1))) = some (.str (s.cut i (i + 1))) := vslice_lohi (hi := i + 1) Tryz.underlying9 (by omega) (by omega)
      have hcl := S.at_lt s i
      refine DoK.skip ?_
      refine DoK.seq ?_
      refine DoK.block fun K2 gn2 gx2 go2 => ?_
      have gr2 := fun fr st h => go2 AE.ret fr st trivial (gr1 fr st h)
      have gx2_0 := fun fr st h => go2 (AE.exit 0) fr st (show (0 : Nat) ≠ 1 by decide) (gx1 fr st h)
      refine DoK.seq ?_
      refine DoK.regG (gs := [none, none, none]) (by kernel_rfl) fun K1 gK => ?_
      simp (maxSteps := 1000000) (disch := omega) [hF, hlt, hix]
      refine gK _ _ ?_
      clear gK K1
      refine DoK.mid (fun fr st' => ∃ (acc : S), Fs gl [(0, .str s), (3, .str acc), (4, .int .i64 (i : Int))] fr ∧ acc.toList = esc (s.toList.take (i + 1)) ∧ st = st') ?_ ?_
      · as_aux_lemma =>
        intro K3 gm3 go3
        have gr3 := fun fr st h => go3 AE.ret fr st trivial (gr2 fr st h)
        have gx3_0 := fun fr st h => go3 (AE.exit 0) fr st trivial (gx2_0 fr st h)
        have gx3_1 := fun fr st h => go3 (AE.exit 1) fr st trivial (gx2 fr st h)
        refine DoK.block fun K4 gn4 gx4 go4 => ?_
        have gr4 := fun fr st h => go4 AE.ret fr st trivial (gr3 fr st h)
        have gx4_0 := fun fr st h => go4 (AE.exit 0) fr st (show (0 : Nat) ≠ 2 by decide) (gx3_0 fr st h)
        have gx4_1 := fun fr st h => go4 (AE.exit 1) fr st (show (1 : Nat) ≠ 2 by decide) (gx3_1 fr st h)
        refine DoK.seq ?_
        refine DoK.regG (gs := [none, none]) (by kernel_rfl) fun K1 gK => ?_
        simp (maxSteps := 1000000) (disch := omega) []
        refine gK _ _ ?_
        clear gK K1
        by_cases h10 : s.at i = 10
        ·
          refine DoK.condT (by simp (maxSteps := 1000000) (disch := omega) [h10]) ?_
          refine DoK.regG (gs := [none, none, none]) (by kernel_rfl) fun K1 gK => ?_
          simp (maxSteps := 1000000) (disch := omega) [hF, ad1, h10]
          refine gK _ _ ?_
          clear gK K1
          refine gn4 _ _ ?_
          exact gm3 _ _ ⟨acc.app (S.ofList [92, 110]), by simp [Fs, hF], by rw [S.toList_app, hacc, take_s s hlt, esc_app, h10, S.toList_ofList]; rfl, rfl⟩
        ·
          refine DoK.condF (by simp (maxSteps := 1000000) (disch := omega) [h10]) ?_
          refine DoK.seq ?_
          refine DoK.regG (gs := [none, none]) (by kernel_rfl) fun K1 gK => ?_
          simp (maxSteps := 1000000) (disch := omega) [h10]
          refine gK _ _ ?_
          clear gK K1
          by_cases h92 : s.at i = 92
          ·
            refine DoK.condT (by simp (maxSteps := 1000000) (disch := omega) [h92]) ?_
            refine DoK.regG (gs := [none, none, none]) (by kernel_rfl) fun K1 gK => ?_
            simp (maxSteps := 1000000) (disch := omega) [hF, ad2, h92]
            refine gK _ _ ?_
            clear gK K1
            refine gn4 _ _ ?_
            exact gm3 _ _ ⟨acc.app (S.ofList [92, 92]), by simp [Fs, hF], by rw [S.toList_app, hacc, take_s s hlt, esc_app, h92, S.toList_ofList]; rfl, rfl⟩
          ·
            refine DoK.condF (by simp (maxSteps := 1000000) (disch := omega) [h92]) ?_
            refine DoK.regG (gs := [none, none, none, none, none, none, none, none]) (by kernel_rfl) fun K1 gK => ?_
            simp (maxSteps := 1000000) (disch := omega) [hF, ad3, hsl, h92]
            refine gK _ _ ?_
            clear gK K1
            refine gn4 _ _ ?_
            exact gm3 _ _ ⟨acc.app (s.cut i (i + 1)), by simp [Fs, hF], by rw [S.toList_app, hacc, take_s s hlt, esc_app, cut_at hlt]; simp [esc, escB_else hcl h10 h92], rfl⟩
      · as_aux_lemma =>
        clear hF
        rintro fr st' ⟨acc, hF, hacc, rfl⟩
        simp only [Fs] at hF
        refine gn2 _ _ ?_
        refine DoK.regG (gs := [none, none, none]) (by kernel_rfl) fun K1 gK => ?_
        simp (maxSteps := 1000000) (disch := omega) [hF]
        refine gK _ _ ?_
        clear gK K1
        refine gk1 (i + 1) _ _ (by omega) ⟨acc, by simp [Fs, hF], by omega, hacc, rfl⟩
    ·
      refine DoK.condF (by simp (maxSteps := 1000000) (disch := omega) [hlt]) ?_
      exact DoK.exit (gx1 _ _ ⟨acc, by simp [Fs, hF, hlt], by rw [hacc, List.take_of_length_le (by rw [S.len]; omega)], rfl⟩)
  · as_aux_lemma =>
    clear hF
    rintro fr st' ⟨acc, hF, hacc, rfl⟩
    simp only [Fs] at hF
    refine DoK.seq ?_
    refine DoK.regG (gs := [none, none]) (by kernel_rfl) fun K1 gK => ?_
    simp (maxSteps := 1000000) (disch := omega) [hF]
    refine gK _ _ ?_
    clear gK K1
    refine DoK.ret (gr _ _ ?_)
    simp [Ends, Tryz.f54, hF]
    refine hR _ _ ?_
    exact ⟨⟨_, rfl, hacc⟩, rfl⟩
omit [Memo] [NY] in
theorem path_len : ∀ (p : List S), (∀ s ∈ p, s.n ≤ 300) → (p.flatMap fun s => 47 :: s.toList).length ≤ 301 * p.length
  | [], _ => Nat.le_refl _
  | s :: p, h => by
    have := path_len p fun t ht => h t (by simp [ht])
    have := h s (by simp)
    simp only [List.flatMap_cons, List.length_append, List.length_cons, S.len]; omega
omit [Memo] [NY] in
theorem path_take {p : List S} {i : Nat} (h : i < p.length) : (p.take (i + 1)).flatMap (fun s => 47 :: s.toList) = (p.take i).flatMap (fun s => 47 :: s.toList) ++ 47 :: p[i].toList := by
  rw [List.take_add_one, List.getElem?_eq_getElem h, List.flatMap_append]; simp
omit [Memo] [NY] in
theorem pathB_ne {p : List S} (h : ¬ p = []) : pathB p = p.flatMap fun s => 47 :: s.toList := by
  cases p with
  | nil => exact absurd rfl h
  | cons a b => rfl
set_option maxRecDepth 100000 in
theorem showR_ok (gl : Gl) (st : St) (x : V) (p : List S) (hx : Vw st x p) (hp : p.length ≤ 60) (hs : ∀ s ∈ p, s.n ≤ 300) :
    Says Tryz.prog gl 55 [x] st (fun v st' => (∃ t : S, v = .str t ∧ t.toList = pathB p) ∧ Sm st st') := by
  refine saysK (NY.no _ rfl rfl rfl _ _) Tryz.func55 rfl (by kernel_rfl) fun R hR K gr gn => ?_
  generalize hfr : initFr gl [x] = fr
  have hF : Fs gl [(0, x)] fr := by subst hfr; simp [Fs]
  simp only [Fs] at hF
  clear hfr
  have lx := hx.len Tryz.underlying23
  refine DoK.seq ?_
  refine DoK.regG (gs := [none]) (by kernel_rfl) fun K1 gK => ?_
  simp (maxSteps := 1000000) (disch := omega) []
  refine gK _ _ ?_
  clear gK K1
  refine DoK.seq ?_
  refine DoK.seq ?_
  refine DoK.regG (gs := [none, none, none]) (by kernel_rfl) fun K1 gK => ?_
  simp (maxSteps := 1000000) (disch := omega) [hF, lx]
  refine gK _ _ ?_
  clear gK K1
  by_cases h0 : p = []
  ·
    refine DoK.condT (by simp (maxSteps := 1000000) (disch := omega) [h0]) ?_
    refine DoK.seq ?_
    refine DoK.regG (gs := [none]) (by kernel_rfl) fun K1 gK => ?_
    simp (maxSteps := 1000000) (disch := omega) [h0]
    refine gK _ _ ?_
    clear gK K1
    refine DoK.ret (gr _ _ ?_)
    simp [Ends, Tryz.f55, hF]
    refine hR _ _ ?_
    exact ⟨⟨S.ofList [47], rfl, by rw [h0]; rfl⟩, rfl⟩
  ·
    refine DoK.condF (by simp (maxSteps := 1000000) (disch := omega) [h0]) ?_
    refine DoK.skip ?_
    refine DoK.seq ?_
    refine DoK.regG (gs := [none]) (by kernel_rfl) fun K1 gK => ?_
    simp (maxSteps := 1000000) (disch := omega) [h0]
    refine gK _ _ ?_
    clear gK K1
    refine DoK.seq ?_
    refine DoK.seq ?_
    refine DoK.regG (gs := [none]) (by kernel_rfl) fun K1 gK => ?_
    simp (maxSteps := 1000000) (disch := omega) []
    refine gK _ _ ?_
    clear gK K1
    refine DoK.loop (p.length) (fun i fr st' => ∃ (acc : S), Fs gl [(0, x), (3, .str acc), (4, .int .i64 (i : Int))] fr ∧ i ≤ p.length ∧ acc.toList = (p.take i).flatMap (fun s => 47 :: s.toList) ∧ st = st') (0) (fun fr st' => ∃ (acc : S), Fs gl [(3, .str acc)] fr ∧ acc.toList = p.flatMap (fun s => 47 :: s.toList) ∧ st = st') ?_ ?_ ?_ ?_
    · exact ⟨⟨0, 0⟩, by simp [Fs, hF, S.ofList, enc],  Nat.zero_le _, rfl, rfl⟩
    · rintro i fr st' ⟨acc, _, hi, hacc, rfl⟩
      omega
    · as_aux_lemma =>
      clear hF
      rintro i fr st' ⟨acc, hF, hi, hacc, rfl⟩ K5 gk5 gx5 go5
      simp only [Fs] at hF
      have gr5 := fun fr st h => go5 AE.ret fr st trivial (gr fr st h)
      refine DoK.seq ?_
      refine DoK.seq ?_
      refine DoK.regG (gs := [none, none, none, none]) (by kernel_rfl) fun K1 gK => ?_
      simp (maxSteps := 1000000) (disch := omega) [hF, lx]
      refine gK _ _ ?_
      clear gK K1
      by_cases hlt : i < p.length
      ·
        refine DoK.condT (by simp (maxSteps := 1000000) (disch := omega) [hlt]) ?_
        have hxi := hx.ix Tryz.underlying23 z9 (k := .i64) (a := (i : Int)) (by omega) (by omega)
        have hxd := hx.ld z9 a9 hlt
        have han : acc.n ≤ 301 * i := by
          have h1 := congrArg List.length hacc
          have h2 := path_len (p.take i) fun s hm => hs s (List.mem_of_mem_take hm)
          rw [S.len] at h1
          rw [List.length_take, Nat.min_eq_left hi] at h2
          omega
        have hsn := hs _ (List.getElem_mem hlt)
        have ad1 : ∀ kk, vbin Tryz.prog kk .add 9 (.str acc) (.str (S.ofList [47])) = some (.str (acc.app (S.ofList [47]))) := fun kk => vbin_sadd (by rw [ofList_n]; simp; omega)
        have ad2 : ∀ kk, vbin Tryz.prog kk .add 9 (.str (acc.app (S.ofList [47]))) (.str p[i]) = some (.str ((acc.app (S.ofList [47])).app p[i])) := fun kk => vbin_sadd (by rw [app_n, ofList_n]; simp; omega)
        refine DoK.skip ?_
        refine DoK.seq ?_
        refine DoK.block fun K6 gn6 gx6 go6 => ?_
        have gr6 := fun fr st h => go6 AE.ret fr st trivial (gr5 fr st h)
        have gx6_0 := fun fr st h => go6 (AE.exit 0) fr st (show (0 : Nat) ≠ 1 by decide) (gx5 fr st h)
        refine DoK.regG (gs := [none, none, none, none, none, none, none, none]) (by kernel_rfl) fun K1 gK => ?_
        simp (maxSteps := 1000000) (disch := omega) [hF, hlt, hxi, hxd, ad1, ad2]
        refine gK _ _ ?_
        clear gK K1
        refine gn6 _ _ ?_
        refine DoK.regG (gs := [none, none, none]) (by kernel_rfl) fun K1 gK => ?_
        simp (maxSteps := 1000000) (disch := omega) [hF]
        refine gK _ _ ?_
        clear gK K1
        refine gk5 (i + 1) _ _ (by omega) ⟨(acc.app (S.ofList [47])).app p[i], by simp [Fs, hF], by omega, by rw [S.toList_app, S.toList_app, hacc, S.toList_ofList, path_take hlt]; simp, rfl⟩
      ·
        refine DoK.condF (by simp (maxSteps := 1000000) (disch := omega) [hlt]) ?_
        exact DoK.exit (gx5 _ _ ⟨acc, by simp [Fs, hF, hlt], by rw [hacc, List.take_of_length_le (by omega)], rfl⟩)
    · as_aux_lemma =>
      clear hF
      rintro fr st' ⟨acc, hF, hacc, rfl⟩
      simp only [Fs] at hF
      refine DoK.seq ?_
      refine DoK.regG (gs := [none, none]) (by kernel_rfl) fun K1 gK => ?_
      simp (maxSteps := 1000000) (disch := omega) [hF]
      refine gK _ _ ?_
      clear gK K1
      refine DoK.ret (gr _ _ ?_)
      simp [Ends, Tryz.f55, hF]
      refine hR _ _ ?_
      exact ⟨⟨_, rfl, by rw [hacc, pathB_ne h0]⟩, rfl⟩
class NZ [Memo] : Prop where
  itoa : ∀ (n : Nat) (st : St), n ≤ 60 → ∃ t : S, (Memo.look 49).run [.int .i64 (n : Int)] st = some (.str t, st) ∧ t.toList = digB n
  digits : ∀ (n : Nat) (st : St), n ≤ 60 → ∃ t : S, (Memo.look 56).run [.int .i64 (n : Int)] st = some (.str t, st) ∧ t.toList = digB n
omit [NY] in
theorem W_known {P : Program} {gl : Gl} {f : Nat} {args : List V} {st st' : St} {v : V} (h : (Memo.look f).run args st = some (v, st')) : W P (.call gl f args) st = .call (.val v st') := by
  refine W_of rfl ⟨1, fun m hm => ?_⟩
  obtain ⟨k, rfl⟩ : ∃ k, m = k + 1 := ⟨m - 1, by omega⟩
  simp only [X, xCall, h]
omit [NY] in
theorem itoa_ok [NZ] (gl : Gl) (st : St) (n : Nat) (h : n ≤ 60) : Says Tryz.prog gl 49 [.int .i64 (n : Int)] st fun v st' => (∃ t : S, v = .str t ∧ t.toList = digB n) ∧ Sm st st' := by
  obtain ⟨t, h1, h2⟩ := NZ.itoa n st h
  exact ⟨_, _, W_known h1, ⟨t, rfl, h2⟩, rfl⟩
omit [NY] in
theorem digits_ok [NZ] (gl : Gl) (st : St) (n : Nat) (h : n ≤ 60) : Says Tryz.prog gl 56 [.int .i64 (n : Int)] st fun v st' => (∃ t : S, v = .str t ∧ t.toList = digB n) ∧ Sm st st' := by
  obtain ⟨t, h1, h2⟩ := NZ.digits n st h
  exact ⟨_, _, W_known h1, ⟨t, rfl, h2⟩, rfl⟩
end Go.Vm
