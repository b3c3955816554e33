/- PatFacts, by the program. -/
import Derived.Test.YtidnmhdlfofinaaGreatDoorPzA
namespace Go.Vm
open Go Go.Proofs Go.Pa
attribute [local simp] OkG xOpsG wantG OkD OkRuns xOps xDrawL vwanted isDefer vop kindOf vpure ev evs toV atTo_some Fr.dsTo Fr.glTo Fr.toNone initFr_at initFr_ds initFr_gl veff vact traverse tupled vresult V.undef evOpt sameIn nn_eql nn_neq nn_lss nn_leq nn_gtr nn_geq nl_eql nl_neq nl_lss nl_leq nl_gtr nl_geq vbin_seql vbin_sneq vload_ctr vbin_add vbin_sub wrap_i64 veq_str veq_int fcp0 fcp1 fcp2 fcp3 fcp4 fcp5 fg0 fg1 fg2 fg3 fg4 fg5
theorem placeS_len {l : List Fw} {n : Int} (hl : l.length ≤ 60) : (placeS (mayP l) l n).length ≤ 60 := by
  unfold placeS
  cases hM : mayP l with
  | false => simp
  | true =>
    by_cases h : 0 ≤ n ∧ n < (l.length : Int)
    · have := place_lenL (mayP_iff.1 hM) n.toNat (by omega)
      simp only [h.1, h.2, decide_true, Bool.and_self, cond_true]
      omega
    · have : (decide (0 ≤ n) && decide (n < (l.length : Int))) = false := by
        rw [Bool.and_eq_false_iff, decide_eq_false_iff_not, decide_eq_false_iff_not]; omega
      simp [this]
theorem findV_form (M : Bool) (l : List Fw) (p : List S) : ∃ (N0 : Int) (B0 : Bool) (E0 : Int), findV M l p = .tup [.int .i64 N0, .bool B0, .int .i64 E0] := by
  unfold findV
  cases M with
  | false => exact ⟨_, _, _, rfl⟩
  | true =>
    cases findL l 0 p with
    | none => exact ⟨_, _, _, rfl⟩
    | some m => exact ⟨_, _, _, rfl⟩
theorem show_len {l : List Fw} {ts : List S} (hl : l.length ≤ 60) (h : ts.map S.toList = cond (mayP l) ((tour l l.length 0 []).map (lineL l)) []) : ts.length ≤ 60 := by
  have h2 := congrArg List.length h
  rw [List.length_map] at h2
  cases hM : mayP l with
  | false => rw [hM] at h2; simp at h2; simp [h2]
  | true => rw [hM] at h2; simp [tour_len (mayP_iff.1 hM)] at h2; omega
variable [Memo] [NY] [NZ] [NO] [NA]
set_option maxHeartbeats 4000000 in
set_option maxRecDepth 100000 in
theorem law4 (gl : Gl) {aL : List V} (hh : Hits gl aL) (hw : gl.get 0 = some wordsV) (st : St) (x y z : V) (a b : List Fw) (n : Int) (p : List S) (hx : Row Fw.cells x a) (hy : Row Fw.cells y b) (hok : ∀ f ∈ a, f.ok) (hok' : ∀ f ∈ b, f.ok) (hz : Vw st z p) :
    Says Tryz.prog gl 4 [x, y, .int .i64 n, z] st (fun v st' => v = .bool true) := by
  refine saysK (NY.no _ rfl rfl rfl _ _) Tryz.func4 rfl (by kernel_rfl) fun R hR K gr gn => ?_
  generalize hfr : initFr gl [x, y, .int .i64 n, z] = fr
  have hF : Fs gl [(0, x), (1, y), (2, .int .i64 n), (3, z)] fr := by subst hfr; simp [Fs]
  simp only [Fs] at hF
  clear hfr
  obtain ⟨v, s1, hc1, ⟨b1, rfl, hb1⟩, hk1⟩ := Says.use (long_ok gl st x a hx hok) (by kernel_rfl)
  obtain ⟨v, s2, hc2, ⟨b2, rfl, hb2⟩, hk2⟩ := Says.use (long_ok gl s1 y b hy hok') (by kernel_rfl)
  have lz := hz.len Tryz.underlying23
  obtain ⟨v, sa, hca, rfl, hsa⟩ := Says.use (awake_ok gl s1) (by kernel_rfl)
  rw [show sa = s1 from hsa] at hca
  clear hsa
  obtain ⟨v, sa, hca2, rfl, hsa⟩ := Says.use (awake_ok gl s2) (by kernel_rfl)
  rw [show sa = s2 from hsa] at hca2
  clear hsa
  cases b1 with
  | true =>
    refine DoK.seq ?_
    refine DoK.regG (gs := [none]) (by kernel_rfl) fun K1 gK => ?_
    simp (maxSteps := 1000000) (disch := omega) []
    refine gK _ _ ?_
    clear gK K1
    refine DoK.seq ?_
    refine DoK.seq ?_
    refine DoK.regG (gs := [none, none, none, some (some 26, false), some (some 26, false), none, none, some (some 30, false), some (some 30, false), some (some 30, false), none]) (by kernel_rfl) fun K1 gK => ?_
    simp (maxSteps := 1000000) (disch := omega) [hF, hc1]
    refine gK _ _ ?_
    clear gK K1
    refine DoK.condT (by simp (maxSteps := 1000000) (disch := omega) []) ?_
    refine DoK.seq ?_
    refine DoK.regG (gs := [none, none]) (by kernel_rfl) fun K1 gK => ?_
    simp (maxSteps := 1000000) (disch := omega) [hF, hca]
    refine gK _ _ ?_
    clear gK K1
    refine DoK.ret (gr _ _ ?_)
    simp [Ends, Tryz.f4, hF]
    refine hR _ _ ?_
    rfl
  | false =>
    obtain ⟨hl, hs⟩ := hb1 rfl
    cases b2 with
    | true =>
      refine DoK.seq ?_
      refine DoK.regG (gs := [none]) (by kernel_rfl) fun K1 gK => ?_
      simp (maxSteps := 1000000) (disch := omega) []
      refine gK _ _ ?_
      clear gK K1
      refine DoK.seq ?_
      refine DoK.seq ?_
      refine DoK.regG (gs := [none, none, none, some (some 26, false), some (some 26, false), none, none, some (some 30, false), some (some 30, false), some (some 30, false), none]) (by kernel_rfl) fun K1 gK => ?_
      simp (maxSteps := 1000000) (disch := omega) [hF, hc1, hc2]
      refine gK _ _ ?_
      clear gK K1
      refine DoK.condT (by simp (maxSteps := 1000000) (disch := omega) []) ?_
      refine DoK.seq ?_
      refine DoK.regG (gs := [none, none]) (by kernel_rfl) fun K1 gK => ?_
      simp (maxSteps := 1000000) (disch := omega) [hF, hca2]
      refine gK _ _ ?_
      clear gK K1
      refine DoK.ret (gr _ _ ?_)
      simp [Ends, Tryz.f4, hF]
      refine hR _ _ ?_
      rfl
    | false =>
      obtain ⟨hl', hs'⟩ := hb2 rfl
      by_cases h60 : 60 < p.length
      ·
        refine DoK.seq ?_
        refine DoK.regG (gs := [none]) (by kernel_rfl) fun K1 gK => ?_
        simp (maxSteps := 1000000) (disch := omega) []
        refine gK _ _ ?_
        clear gK K1
        refine DoK.seq ?_
        refine DoK.seq ?_
        refine DoK.regG (gs := [none, none, none, some (some 26, false), some (some 26, false), none, none, some (some 30, false), some (some 30, false), some (some 30, false), none]) (by kernel_rfl) fun K1 gK => ?_
        simp (maxSteps := 1000000) (disch := omega) [hF, hc1, hc2, lz, h60]
        refine gK _ _ ?_
        clear gK K1
        refine DoK.condT (by simp (maxSteps := 1000000) (disch := omega) []) ?_
        refine DoK.seq ?_
        refine DoK.regG (gs := [none, none]) (by kernel_rfl) fun K1 gK => ?_
        simp (maxSteps := 1000000) (disch := omega) [hF, hca2]
        refine gK _ _ ?_
        clear gK K1
        refine DoK.ret (gr _ _ ?_)
        simp [Ends, Tryz.f4, hF]
        refine hR _ _ ?_
        rfl
      ·
        have hk12 : Keep st s2 := hk1.trans hk2
        refine DoK.seq ?_
        refine DoK.regG (gs := [none]) (by kernel_rfl) fun K1 gK => ?_
        simp (maxSteps := 1000000) (disch := omega) []
        refine gK _ _ ?_
        clear gK K1
        refine DoK.seq ?_
        refine DoK.seq ?_
        refine DoK.regG (gs := [none, none, none, some (some 26, false), some (some 26, false), none, none, some (some 30, false), some (some 30, false), some (some 30, false), none]) (by kernel_rfl) fun K1 gK => ?_
        simp (maxSteps := 1000000) (disch := omega) [hF, hc1, hc2, lz, h60]
        refine gK _ _ ?_
        clear gK K1
        refine DoK.condF (by simp (maxSteps := 1000000) (disch := omega) []) ?_
        refine DoK.skip ?_
        refine DoK.seq ?_
        refine DoK.seq ?_
        refine DoK.regG (gs := [none]) (by kernel_rfl) fun K1 gK => ?_
        simp (maxSteps := 1000000) (disch := omega) []
        refine gK _ _ ?_
        clear gK K1
        refine DoK.loop (2) (fun i fr st' => Fs gl [(0, x), (1, y), (2, .int .i64 n), (3, z), (9, .int .i64 (i : Int))] fr ∧ i ≤ 2 ∧ Keep st st') (0) (fun fr st' => Fs gl [(0, x), (1, y), (3, z)] fr ∧ Keep st st') ?_ ?_ ?_ ?_
        · exact ⟨by simp [Fs, hF], Nat.zero_le _, hk12⟩
        · rintro i fr st' ⟨_, hi, hk⟩
          omega
        · as_aux_lemma =>
          clear hF
          rintro i fr st' ⟨hF, hi, hk⟩ K1 gk1 gx1 go1
          simp only [Fs] at hF
          have gr1 := fun fr st h => go1 AE.ret fr st trivial (gr fr st h)
          refine DoK.seq ?_
          refine DoK.seq ?_
          refine DoK.regG (gs := [none, none]) (by kernel_rfl) fun K1 gK => ?_
          simp (maxSteps := 1000000) (disch := omega) [hF]
          refine gK _ _ ?_
          clear gK K1
          by_cases hi2 : i < 2
          ·
            refine DoK.condT (by simp (maxSteps := 1000000) (disch := omega) [hi2]) ?_
            obtain ⟨v, s3, hc3, ⟨y3, rfl, hy3⟩, hk3⟩ := Says.use (wPlaceM gl hh st' x a n hx hok hs hl) (by kernel_rfl)
            obtain ⟨v, s4, hc4, ⟨y4, rfl, hy4⟩, hk4⟩ := Says.use (rPlace gl s3 x a n hx hok hs hl) (by kernel_rfl)
            rw [mayR_eq] at hc4 hy4
            obtain ⟨v, s5, hc5, ⟨y5, t5, rfl, ht5, hy5⟩, hk5⟩ := Says.use (wShow gl hh hw s4 x a hx hok hs hl) (by kernel_rfl)
            obtain ⟨v, s6, hc6, ⟨y6, t6, rfl, ht6, hy6⟩, hk6⟩ := Says.use (rShow gl s5 x a hx hok hs hl) (by kernel_rfl)
            rw [mayR_eq] at hc6 ht6
            have hps := placeS_len (n := n) hl
            have ht5l := show_len hl ht5
            obtain ⟨E, hE⟩ : ∃ E, placeE (mayP a) a n = E := ⟨_, rfl⟩
            obtain ⟨C, hC⟩ : ∃ C, cond (mayP a) 0 4 = C := ⟨_, rfl⟩
            rw [hE] at hc3 hc4
            rw [hC] at hc5 hc6
            have k36 : Keep s3 s6 := (hk4.trans hk5).trans hk6
            have k06 : Keep st s6 := ((hk.trans hk3).trans (hk4.trans hk5)).trans hk6
            obtain ⟨v, s7, hc7, rfl, hB7⟩ := Says.use (spoil_ok gl s6 st'.ctr y3 y4 _ _ (hy3.keep k36) (hy4.vw.keep (hk5.trans hk6)) (by omega)) (by kernel_rfl)
            rw [all2_same_refl] at hc7
            have e4 := hk4.ctr
            have e5 := hk5.ctr
            have e6 := hk6.ctr
            have e7 := hB7.ctr
            have e0 := hk.ctr
            have e3 := hk3.ctr
            have m5 : Mine s4.ctr 9 s7 y5 (t5.map .str) := (hy5.keep hk6).stab hB7.ctr fun i hi => by
              have h1 := hy5.vid_lt hi
              exact hB7.box i (by omega) fun h => by have := (hy3.vid_lt h).2; omega
            have m6 : Mine s5.ctr 9 s7 y6 (t6.map .str) := hy6.stab hB7.ctr fun i hi => by
              have h1 := hy6.vid_lt hi
              exact hB7.box i (by omega) fun h => by have := (hy3.vid_lt h).2; omega
            obtain ⟨v, s8, hc8, rfl, hB8⟩ := Says.use (spoil_ok gl s7 s4.ctr y5 y6 _ _ m5 m6.vw (by omega)) (by kernel_rfl)
            rw [same_texts (ht5.trans ht6.symm)] at hc8
            have e8 := hB8.ctr
            have k08 : Keep st s8 := ⟨by omega, fun i hi => by
              rw [hB8.box i (by omega) fun h => by have := (hy5.vid_lt h).1; omega, hB7.box i (by omega) fun h => by have := (hy3.vid_lt h).1; omega]
              exact k06.box i hi⟩
            refine DoK.skip ?_
            refine DoK.seq ?_
            refine DoK.block fun K2 gn2 gx2 go2 => ?_
            have gr2 := fun fr st h => go2 AE.ret fr st trivial (gr1 fr st h)
            have gx2_0 := fun fr st h => go2 (AE.exit 0) fr st (show (0 : Nat) ≠ 1 by decide) (gx1 fr st h)
            refine DoK.seq ?_
            refine DoK.regG (gs := [none, none, none, none, none, none, none, none]) (by kernel_rfl) fun K1 gK => ?_
            simp (maxSteps := 1000000) (disch := omega) [hF, hi2, hc3]
            refine gK _ _ ?_
            clear gK K1
            refine DoK.seq ?_
            refine DoK.regG (gs := [none, none, none, none, none, none, none, none]) (by kernel_rfl) fun K1 gK => ?_
            simp (maxSteps := 1000000) (disch := omega) [hF, hc4]
            refine gK _ _ ?_
            clear gK K1
            refine DoK.seq ?_
            refine DoK.regG (gs := [none, none, none, none, none, none, none]) (by kernel_rfl) fun K1 gK => ?_
            simp (maxSteps := 1000000) (disch := omega) [hF, hc5]
            refine gK _ _ ?_
            clear gK K1
            refine DoK.seq ?_
            refine DoK.regG (gs := [none, none, none, none, none, none, none]) (by kernel_rfl) fun K1 gK => ?_
            simp (maxSteps := 1000000) (disch := omega) [hF, hc6]
            refine gK _ _ ?_
            clear gK K1
            refine DoK.seq ?_
            refine DoK.regG (gs := [none, none, none, none, some (some 65, false), some (some 65, false), some (some 65, false), none, none, some (some 70, false), some (some 70, false), some (some 70, false), some (some 70, false), none, none, some (some 76, false), some (some 76, false), some (some 76, false), some (some 76, false), none]) (by kernel_rfl) fun K1 gK => ?_
            simp (maxSteps := 1000000) (disch := omega) [hF, vbin_neq, hc7, hc8]
            refine gK _ _ ?_
            clear gK K1
            refine DoK.condF (by simp (maxSteps := 1000000) (disch := omega) []) ?_
            refine DoK.skip ?_
            refine gn2 _ _ ?_
            refine DoK.regG (gs := [none, none, none]) (by kernel_rfl) fun K1 gK => ?_
            simp (maxSteps := 1000000) (disch := omega) [hF]
            refine gK _ _ ?_
            clear gK K1
            refine gk1 (i + 1) _ _ (by omega) ⟨by simp [Fs, hF], by omega, k08⟩
          ·
            refine DoK.condF (by simp (maxSteps := 1000000) (disch := omega) [hi2]) ?_
            exact DoK.exit (gx1 _ _ ⟨by simp [Fs, hF, hi2], hk⟩)
        · as_aux_lemma =>
          clear hF
          rintro fr st' ⟨hF, hk⟩
          simp only [Fs] at hF
          obtain ⟨v, s3, hc3, rfl, hk3⟩ := Says.use (wFind gl hh st' x z a p hx hok hs hl (hz.keep hk) (by omega)) (by kernel_rfl)
          obtain ⟨v, s4, hc4, rfl, hk4⟩ := Says.use (rFind gl s3 x z a p hx hok hs hl ((hz.keep hk).keep hk3) (by omega)) (by kernel_rfl)
          obtain ⟨v, s5, hc5, rfl, hk5⟩ := Says.use (wMayP_ok gl hh s4 x a hx hok hs hl) (by kernel_rfl)
          obtain ⟨v, s6, hc6, rfl, hk6⟩ := Says.use (rMayP_ok gl s5 x a hx hok hs hl) (by kernel_rfl)
          obtain ⟨v, s7, hc7, rfl, hk7⟩ := Says.use (wSameP_ok gl s6 x y a b hx hy hok hok' hs (by omega)) (by kernel_rfl)
          obtain ⟨v, s8, hc8, rfl, hk8⟩ := Says.use (rSame gl s7 x y a b hx hy hok hok' hs hs' (by omega)) (by kernel_rfl)
          obtain ⟨v, s9, hc9, rfl, hk9⟩ := Says.use (wSameP_ok gl s8 x x a a hx hx hok hok hs (by omega)) (by kernel_rfl)
          obtain ⟨v, sa, hc10, rfl, hsa⟩ := Says.use (awake_ok gl s9) (by kernel_rfl)
          rw [show sa = s9 from hsa] at hc10
          clear hsa
          rw [all2_refl sameF_refl] at hc9
          rw [mayR_eq] at hc4 hc6
          obtain ⟨A, hA⟩ : ∃ A, all2 sameF a b = A := ⟨_, rfl⟩
          rw [hA] at hc7 hc8
          obtain ⟨M, hM⟩ : ∃ M, mayP a = M := ⟨_, rfl⟩
          rw [hM] at hc3 hc4 hc5 hc6
          obtain ⟨N0, B0, E0, hf⟩ := findV_form M a p
          rw [hf] at hc3 hc4
          refine DoK.seq ?_
          refine DoK.regG (gs := [none, none, none, none, none, none, none, none, none, none]) (by kernel_rfl) fun K1 gK => ?_
          simp (maxSteps := 1000000) (disch := omega) [hF, hc3]
          refine gK _ _ ?_
          clear gK K1
          refine DoK.seq ?_
          refine DoK.regG (gs := [none, none, none, none, none, none, none, none, none, none]) (by kernel_rfl) fun K1 gK => ?_
          simp (maxSteps := 1000000) (disch := omega) [hF, hc4]
          refine gK _ _ ?_
          clear gK K1
          refine DoK.seq ?_
          refine DoK.regG (gs := [none, none, none, none, none, none, some (some 101, true), some (some 101, true), some (some 101, true), none, none, some (some 106, true), some (some 106, true), some (some 106, true), none, none, some (some 111, true), some (some 111, true), some (some 111, true), none, none, some (some 116, true), some (some 116, true), some (some 116, true), some (some 116, true), some (some 116, true), some (some 116, true), some (some 116, true), none, none, some (some 125, true), some (some 125, true), some (some 125, true), none, none, some (some 130, true), none, none]) (by kernel_rfl) fun K1 gK => ?_
          refine OkG.cutK 6 (fun fr st' => Fs gl [(0, x), (1, y), (18, .int .i64 N0), (19, .bool B0), (20, .int .i64 E0), (21, .int .i64 N0), (22, .bool B0), (23, .int .i64 E0), (101, .bool true)] fr ∧ s6 = st') (by kernel_rfl) ?_ ?_
          · as_aux_lemma =>
            intro Kc gKc
            simp only [List.take]
            simp (maxSteps := 1000000) (disch := omega) [hF, beq4, hc5, hc6]
            exact gKc _ _ ⟨by simp [Fs, hF], rfl⟩
          · as_aux_lemma =>
            clear hF
            rintro fr st' ⟨hF, rfl⟩
            simp only [Fs] at hF
            simp only [List.drop]
            refine OkG.cutK 15 (fun fr st' => Fs gl [(0, x), (1, y), (116, .bool true)] fr ∧ s6 = st') (by kernel_rfl) ?_ ?_
            · as_aux_lemma =>
              intro Kc gKc
              simp only [List.take]
              simp (maxSteps := 1000000) (disch := omega) [hF, beq4, vbin_eql]
              exact gKc _ _ ⟨by simp [Fs, hF], rfl⟩
            · as_aux_lemma =>
              clear hF
              rintro fr st' ⟨hF, rfl⟩
              simp only [Fs] at hF
              simp only [List.drop]
              refine OkG.cutK 9 (fun fr st' => Fs gl [(0, x), (125, .bool true)] fr ∧ s8 = st') (by kernel_rfl) ?_ ?_
              · as_aux_lemma =>
                intro Kc gKc
                simp only [List.take]
                simp (maxSteps := 1000000) (disch := omega) [hF, beq4, hc7, hc8]
                exact gKc _ _ ⟨by simp [Fs, hF], rfl⟩
              · as_aux_lemma =>
                clear hF
                rintro fr st' ⟨hF, rfl⟩
                simp only [Fs] at hF
                simp only [List.drop]
                simp (maxSteps := 1000000) (disch := omega) [hF, hc9, hc10]
                refine gK _ _ ?_
                clear gK K1
                refine DoK.ret (gr _ _ ?_)
                simp [Ends, Tryz.f4, hF]
                refine hR _ _ ?_
                rfl
end Go.Vm
