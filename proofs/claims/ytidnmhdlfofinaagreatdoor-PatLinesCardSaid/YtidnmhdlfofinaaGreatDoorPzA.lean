/- What the law's own helpers answer: same, rising. The laws, by the program: PatPlaces, PatFacts, PatLines. What is known: the set of the special bytes, that a wrong rune is none of them, the digits of small numbers, that the law's helper wakes: runs in the kernel. The first call of a replacer builds it: a run in a small state, carried over. All that is known, as one memory. Facts, out of the shape of an argument. -/
import Derived.Test.YtidnmhdlfofinaaGreatDoorPz9
import Derived.Test.YtidnmhdlfofinaaGreatDoorVmMemo
import Derived.Test.YtidnmhdlfofinaaGreatDoorPz0
namespace Go.Vm
open Go Go.Proofs Go.Pa
attribute [local simp] OkG xOpsG wantG OkD OkRuns xOps xDrawL vwanted isDefer vop kindOf vpure ev evs toV atTo_some Fr.dsTo Fr.glTo Fr.toNone initFr_at initFr_ds initFr_gl veff vact traverse tupled vresult V.undef evOpt sameIn nn_eql nn_neq nn_lss nn_leq nn_gtr nn_geq nl_eql nl_neq nl_lss nl_leq nl_gtr nl_geq vbin_seql vbin_sneq vload_ctr vbin_add vbin_sub wrap_i64 veq_str veq_int fcp0 fcp1 fcp2 fcp3 fcp4 fcp5 fg0 fg1 fg2 fg3 fg4 fg5
def Risen (l : List Fw) : Prop := ∀ i, 1 ≤ i → i < l.length → lessL (placeL l (i - 1)) (placeL l i) = true
theorem placeE_in {l : List Fw} {n : Nat} (h : n < l.length) : placeE true l (n : Int) = 0 := by
  have : ((n : Nat) : Int) < (l.length : Int) := by omega
  simp [placeE, h]
theorem placeS_in {l : List Fw} {n : Nat} (h : n < l.length) : placeS true l (n : Int) = placeL l n := by
  simp [placeS, h]
theorem place_lenL {l : List Fw} (hm : MayF l) : ∀ m, m < l.length → (placeL l m).length ≤ m := by
  intro m
  induction m using Nat.strongRecOn with
  | _ m ih =>
    intro h
    by_cases h0 : m = 0
    · subst h0; simp [placeL_zero]
    · obtain ⟨u1, u2, _⟩ := upOf_lt hm (by omega) h
      rw [placeL_step hm (by omega) h, List.length_append]
      have := ih _ u1 u2
      simp; omega
theorem Mine.set2 {P : Program} {e : TypeId} (hz : sizeT P e = some 1) {st : St} {x v : V} {l : List V} {lo i : Nat} (h : Mine lo e st x l) (hi : i < l.length) (hv : simV v = true) :
    ∃ st', vstore P st e (adr 1 x i) v = some st' ∧ st'.ctr = st.ctr ∧ (∀ j, ¬ vid x j → st'.box.get j = st.box.get j) ∧ Mine lo e st' x (l.set i v) := by
  cases h with
  | nils => simp at hi
  | ms id n cap cs fl hlo hid hb hn hcap =>
    have hi' : i < cs.length := by simp at hi; omega
    have hin : i < n := by simp at hi; omega
    refine ⟨{ st with box := st.box.put id (.cells (cs.set i v) e fl (some 0)) }, by simp only [adr, Nat.zero_add, Nat.mul_one]; exact vstore_one hz hb hi' hv, rfl, fun j hj => by show (st.box.put id _).get j = _; rw [Tr.get_put, if_neg (show ¬ j = id from hj)], ?_⟩
    have := Mine.ms (lo := lo) (e := e) (st := { st with box := st.box.put id (.cells (cs.set i v) e fl (some 0)) }) id n cap (cs.set i v) fl hlo hid (by show (st.box.put id _).get _ = _; rw [Tr.get_put, if_pos rfl]) (by simpa using hn) (fun c hc => by simpa using hcap c hc)
    rwa [List.take_set] at this
structure But (x : V) (st st' : St) : Prop where
  ctr : st.ctr ≤ st'.ctr
  box : ∀ i, i < st.ctr → ¬ vid x i → st'.box.get i = st.box.get i
theorem But.of {x : V} {a b : St} (h : Keep a b) : But x a b := ⟨h.ctr, fun i hi _ => h.box i hi⟩
theorem But.trans {x : V} {a b c : St} (h : But x a b) (k : But x b c) : But x a c := ⟨Nat.le_trans h.ctr k.ctr, fun i hi hv => (k.box i (Nat.lt_of_lt_of_le hi h.ctr) hv).trans (h.box i hi hv)⟩
variable [Memo] [NY]
set_option maxRecDepth 100000 in
theorem spoil_ok (gl : Gl) (st : St) (lo : Nat) (x y : V) (a b : List S) (hx : Mine lo 9 st x (a.map .str)) (hy : Vw st y b) (ha : a.length < 1000000) :
    Says Tryz.prog gl 16 [x, y] st (fun v st' => v = .bool (all2 S.same a b) ∧ But x st st') := by
  refine saysK (NY.no _ rfl rfl rfl _ _) Tryz.func16 rfl (by kernel_rfl) fun R hR K gr gn => ?_
  generalize hfr : initFr gl [x, y] = fr
  have hF : Fs gl [(0, x), (1, y)] fr := by subst hfr; simp [Fs]
  simp only [Fs] at hF
  clear hfr
  obtain ⟨v, s1, hc, rfl, hk1⟩ := Says.use (sameS_ok gl st x y a b hx.vw hy ha) (by kernel_rfl)
  have hx1 := hx.keep hk1
  have lx := hx.len Tryz.underlying23
  rw [List.length_map] at lx
  refine DoK.seq ?_
  refine DoK.regG (gs := [none]) (by kernel_rfl) fun K1 gK => ?_
  simp (maxSteps := 1000000) (disch := omega) []
  refine gK _ _ ?_
  clear gK K1
  refine DoK.seq ?_
  refine DoK.regG (gs := [none, none, none, none]) (by kernel_rfl) fun K1 gK => ?_
  simp (maxSteps := 1000000) (disch := omega) [hF, hc]
  refine gK _ _ ?_
  clear gK K1
  refine DoK.seq ?_
  refine DoK.seq ?_
  refine DoK.regG (gs := [none]) (by kernel_rfl) fun K1 gK => ?_
  simp (maxSteps := 1000000) (disch := omega) []
  refine gK _ _ ?_
  clear gK K1
  refine DoK.loop (a.length) (fun i fr st' => ∃ (m : List V), Fs gl [(0, x), (5, .bool (all2 S.same a b)), (6, .int .i64 (i : Int))] fr ∧ i ≤ a.length ∧ m.length = a.length ∧ Mine lo 9 st' x m ∧ But x st st') (0) (fun fr st' => Fs gl [(5, .bool (all2 S.same a b))] fr ∧ But x st st') ?_ ?_ ?_ ?_
  · exact ⟨a.map .str, by simp [Fs, hF], Nat.zero_le _, by simp, hx1, .of hk1⟩
  · rintro i fr st' ⟨m, _, hi, hml, hmi, hlw⟩
    omega
  · as_aux_lemma =>
    clear hF
    rintro i fr st' ⟨m, hF, hi, hml, hmi, hlw⟩ K1 gk1 gx1 go1
    simp only [Fs] at hF
    have gr1 := fun fr st h => go1 AE.ret fr st trivial (gr fr st h)
    refine DoK.seq ?_
    refine DoK.seq ?_
    refine DoK.regG (gs := [none, none, none, none]) (by kernel_rfl) fun K1 gK => ?_
    simp (maxSteps := 1000000) (disch := omega) [hF, lx]
    refine gK _ _ ?_
    clear gK K1
    by_cases hi2 : i < a.length
    ·
      refine DoK.condT (by simp (maxSteps := 1000000) (disch := omega) [hi2]) ?_
      have hxi := hmi.ix Tryz.underlying23 z9 (k := .i64) (a := (i : Int)) (by omega) (by omega)
      obtain ⟨s2, hst, hcc, hbb, hm2⟩ := hmi.set2 z9 (i := i) (v := .str (S.ofList [115, 112, 111, 105, 108, 116])) (by omega) rfl
      refine DoK.skip ?_
      refine DoK.seq ?_
      refine DoK.block fun K2 gn2 gx2 go2 => ?_
      have gr2 := fun fr st h => go2 AE.ret fr st trivial (gr1 fr st h)
      have gx2_0 := fun fr st h => go2 (AE.exit 0) fr st (show (0 : Nat) ≠ 1 by decide) (gx1 fr st h)
      refine DoK.regG (gs := [none, none, none, none]) (by kernel_rfl) fun K1 gK => ?_
      simp (maxSteps := 1000000) (disch := omega) [hF, hi2, hxi, hst]
      refine gK _ _ ?_
      clear gK K1
      refine gn2 _ _ ?_
      refine DoK.regG (gs := [none, none, none]) (by kernel_rfl) fun K1 gK => ?_
      simp (maxSteps := 1000000) (disch := omega) [hF]
      refine gK _ _ ?_
      clear gK K1
      refine gk1 (i + 1) _ _ (by omega) ⟨m.set i (.str (S.ofList [115, 112, 111, 105, 108, 116])), by simp [Fs, hF], by omega, by simp [hml], hm2, hlw.trans ⟨Nat.le_of_eq hcc.symm, fun i _ hv => hbb i hv⟩⟩
    ·
      refine DoK.condF (by simp (maxSteps := 1000000) (disch := omega) [hi2]) ?_
      exact DoK.exit (gx1 _ _ ⟨by simp [Fs, hF, hi2], hlw⟩)
  · as_aux_lemma =>
    clear hF
    rintro fr st' ⟨hF, hlw⟩
    simp only [Fs] at hF
    refine DoK.seq ?_
    refine DoK.regG (gs := [none, none]) (by kernel_rfl) fun K1 gK => ?_
    simp (maxSteps := 1000000) (disch := omega) [hF]
    refine gK _ _ ?_
    clear gK K1
    refine DoK.ret (gr _ _ ?_)
    simp [Ends, Tryz.f16, hF]
    refine hR _ _ ?_
    exact ⟨rfl, hlw⟩
set_option maxHeartbeats 1000000 in
set_option maxRecDepth 100000 in
theorem rising_ok (gl : Gl) {aL : List V} (hh : Hits gl aL) (st : St) (x : V) (l : List Fw) (hx : Row Fw.cells x l) (hok : ∀ f ∈ l, f.ok) (hs : ∀ f ∈ l, f.small) (hl : l.length ≤ 60) (hmf : MayF l) :
    Says Tryz.prog gl 22 [x] st (fun v st' => (∃ r, v = .bool r ∧ (r = true → Risen l)) ∧ Keep st st') := by
  refine saysK (NY.no _ rfl rfl rfl _ _) Tryz.func22 rfl (by kernel_rfl) fun R hR K gr gn => ?_
  generalize hfr : initFr gl [x] = fr
  have hF : Fs gl [(0, x)] fr := by subst hfr; simp [Fs]
  simp only [Fs] at hF
  clear hfr
  have lx := hx.len Tryz.underlying22
  have hM : mayP l = true := mayP_iff.2 hmf
  have hP : ∀ (st : St) (n : Nat), n < l.length → Says Tryz.prog gl 11 [x, .int .i64 (n : Int)] st fun v st' => (∃ y, v = .tup [y, .int .i64 0] ∧ Mine st.ctr 9 st' y ((placeL l n).map .str)) ∧ Keep st st' := fun st n hn => by
    refine (wPlace gl hh st x l (n : Int) hx hok hs hl fun hm m hmm => tour_find hm m hmm).mono fun v st' h => ?_
    obtain ⟨⟨y, h1, h2⟩, h3⟩ := h
    rw [hM, placeE_in hn] at h1
    rw [hM, placeS_in hn] at h2
    exact ⟨⟨y, h1, h2⟩, h3⟩
  refine DoK.seq ?_
  refine DoK.regG (gs := [none]) (by kernel_rfl) fun K1 gK => ?_
  simp (maxSteps := 1000000) (disch := omega) []
  refine gK _ _ ?_
  clear gK K1
  refine DoK.seq ?_
  refine DoK.regG (gs := [none]) (by kernel_rfl) fun K1 gK => ?_
  simp (maxSteps := 1000000) (disch := omega) []
  refine gK _ _ ?_
  clear gK K1
  refine DoK.seq ?_
  refine DoK.seq ?_
  refine DoK.regG (gs := [none]) (by kernel_rfl) fun K1 gK => ?_
  simp (maxSteps := 1000000) (disch := omega) []
  refine gK _ _ ?_
  clear gK K1
  refine DoK.loop (l.length) (fun i fr st' => ∃ (c : Nat), Fs gl [(0, x), (3, .int .i64 (c : Int)), (4, .int .i64 (i : Int))] fr ∧ i ≤ l.length ∧ c ≤ i + 1 ∧ (∀ j, 1 ≤ j → j < i → lessL (placeL l (j - 1)) (placeL l j) = true) ∧ Keep st st') (0) (fun fr st' => ∃ (c : Nat), Fs gl [(0, x), (3, .int .i64 (c : Int))] fr ∧ c ≤ l.length + 1 ∧ Risen l ∧ Keep st st') ?_ ?_ ?_ ?_
  · exact ⟨1, by simp [Fs, hF], Nat.zero_le _, Nat.le_refl _, fun j h1 h2 => by omega, .refl _⟩
  · rintro i fr st' ⟨c, _, hi, hc, hr, hk⟩
    omega
  · as_aux_lemma =>
    clear hF
    rintro i fr st' ⟨c, hF, hi, hc, hr, hk⟩ K3 gk3 gx3 go3
    simp only [Fs] at hF
    have gr3 := fun fr st h => go3 AE.ret fr st trivial (gr fr st h)
    refine DoK.seq ?_
    refine DoK.seq ?_
    refine DoK.regG (gs := [none, none, none, none]) (by kernel_rfl) fun K1 gK => ?_
    simp (maxSteps := 1000000) (disch := omega) [hF, lx]
    refine gK _ _ ?_
    clear gK K1
    by_cases hi2 : i < l.length
    ·
      refine DoK.condT (by simp (maxSteps := 1000000) (disch := omega) [hi2]) ?_
      obtain ⟨v, s2, hc2, ⟨y, rfl, hy⟩, hk2⟩ := Says.use (hP st' i hi2) (by kernel_rfl)
      refine DoK.skip ?_
      refine DoK.seq ?_
      refine DoK.mid (fun fr st' => ∃ (c : Nat), Fs gl [(0, x), (3, .int .i64 (c : Int)), (4, .int .i64 (i : Int))] fr ∧ c ≤ i + 2 ∧ (∀ j, 1 ≤ j → j < i + 1 → lessL (placeL l (j - 1)) (placeL l j) = true) ∧ Keep st st') ?_ ?_
      · as_aux_lemma =>
        intro K4 gm4 go4
        have gr4 := fun fr st h => go4 AE.ret fr st trivial (gr3 fr st h)
        have gx4_0 := fun fr st h => go4 (AE.exit 0) fr st trivial (gx3 fr st h)
        refine DoK.block fun K5 gn5 gx5 go5 => ?_
        have gr5 := fun fr st h => go5 AE.ret fr st trivial (gr4 fr st h)
        have gx5_0 := fun fr st h => go5 (AE.exit 0) fr st (show (0 : Nat) ≠ 1 by decide) (gx4_0 fr st h)
        refine DoK.seq ?_
        refine DoK.regG (gs := [none, none, none, none, none, none, none, none]) (by kernel_rfl) fun K1 gK => ?_
        simp (maxSteps := 1000000) (disch := omega) [hF, hi2, hc2]
        refine gK _ _ ?_
        clear gK K1
        refine DoK.seq ?_
        refine DoK.seq ?_
        refine DoK.regG (gs := [none, none]) (by kernel_rfl) fun K1 gK => ?_
        simp (maxSteps := 1000000) (disch := omega) []
        refine gK _ _ ?_
        clear gK K1
        refine DoK.condF (by simp (maxSteps := 1000000) (disch := omega) []) ?_
        refine DoK.skip ?_
        refine DoK.seq ?_
        refine DoK.seq ?_
        refine DoK.regG (gs := [none, none]) (by kernel_rfl) fun K1 gK => ?_
        simp (maxSteps := 1000000) (disch := omega) [hF]
        refine gK _ _ ?_
        clear gK K1
        by_cases h0 : i = 0
        ·
          refine DoK.condT (by simp (maxSteps := 1000000) (disch := omega) [h0]) ?_
          refine DoK.exit (gx5 _ _ ?_)
          exact gm4 _ _ ⟨c, by simp [Fs, hF, h0], by omega, fun j h1 h2 => by omega, hk.trans hk2⟩
        ·
          refine DoK.condF (by simp (maxSteps := 1000000) (disch := omega) [h0]) ?_
          obtain ⟨v, s3, hc3, ⟨y3, rfl, hy3⟩, hk3⟩ := Says.use (hP s2 (i - 1) (by omega)) (by kernel_rfl)
          rw [show (((i - 1 : Nat) : Nat) : Int) = (i : Int) - 1 by omega] at hc3
          have hle1 := place_lenL hmf i hi2
          have hle2 := place_lenL hmf (i - 1) (by omega)
          obtain ⟨v, s4, hc4, rfl, hk4⟩ := Says.use (less_ok gl s3 y3 y _ _ hy3.vw (hy.vw.keep hk3) (by omega) (by omega)) (by kernel_rfl)
          generalize hle : lessL (placeL l (i - 1)) (placeL l i) = e at hc4
          refine DoK.skip ?_
          refine DoK.seq ?_
          refine DoK.regG (gs := [none, none, none, none, none, none, none, none, none]) (by kernel_rfl) fun K1 gK => ?_
          simp (maxSteps := 1000000) (disch := omega) [hF, h0, hc3]
          refine gK _ _ ?_
          clear gK K1
          refine DoK.seq ?_
          refine DoK.seq ?_
          refine DoK.regG (gs := [none, none, none, none]) (by kernel_rfl) fun K1 gK => ?_
          simp (maxSteps := 1000000) (disch := omega) [hF, hc4]
          refine gK _ _ ?_
          clear gK K1
          cases e with
          | true =>
            refine DoK.condF (by simp (maxSteps := 1000000) (disch := omega) []) ?_
            refine DoK.skip ?_
            refine DoK.regG (gs := [none, none, none]) (by kernel_rfl) fun K1 gK => ?_
            simp (maxSteps := 1000000) (disch := omega) [hF]
            refine gK _ _ ?_
            clear gK K1
            refine gn5 _ _ ?_
            exact gm4 _ _ ⟨c + 1, by simp [Fs, hF], by omega, fun j h1 h2 => by (by_cases hj : j = i; · subst hj; exact hle); exact hr j h1 (by omega), ((hk.trans hk2).trans hk3).trans hk4⟩
          | false =>
            refine DoK.condT (by simp (maxSteps := 1000000) (disch := omega) []) ?_
            refine DoK.seq ?_
            refine DoK.regG (gs := [none]) (by kernel_rfl) fun K1 gK => ?_
            simp (maxSteps := 1000000) (disch := omega) []
            refine gK _ _ ?_
            clear gK K1
            refine DoK.ret (gr5 _ _ ?_)
            simp [Ends, Tryz.f22, hF]
            refine hR _ _ ?_
            exact ⟨⟨false, rfl, fun h => by cases h⟩, ((hk.trans hk2).trans hk3).trans hk4⟩
      · as_aux_lemma =>
        clear hF
        rintro fr st' ⟨c, hF, hc, hr, hk⟩
        simp only [Fs] at hF
        refine DoK.regG (gs := [none, none, none]) (by kernel_rfl) fun K1 gK => ?_
        simp (maxSteps := 1000000) (disch := omega) [hF]
        refine gK _ _ ?_
        clear gK K1
        refine gk3 (i + 1) _ _ (by omega) ⟨c, by simp [Fs, hF], by omega, by omega, hr, hk⟩
    ·
      refine DoK.condF (by simp (maxSteps := 1000000) (disch := omega) [hi2]) ?_
      exact DoK.exit (gx3 _ _ ⟨c, by simp [Fs, hF, hi2], by omega, fun j h1 h2 => hr j h1 (by omega), hk⟩)
  · as_aux_lemma =>
    clear hF
    rintro fr st' ⟨c, hF, hc, hr, hk⟩
    simp only [Fs] at hF
    refine DoK.seq ?_
    refine DoK.regG (gs := [none, none, none, none, none]) (by kernel_rfl) fun K1 gK => ?_
    simp (maxSteps := 1000000) (disch := omega) [hF, lx]
    refine gK _ _ ?_
    clear gK K1
    refine DoK.ret (gr _ _ ?_)
    simp [Ends, Tryz.f22, hF]
    refine hR _ _ ?_
    exact ⟨⟨_, rfl, fun _ => hr⟩, hk⟩
end Go.Vm
namespace Go.Vm
open Go Go.Proofs Go.Pa
attribute [local simp] OkG xOpsG wantG OkD OkRuns xOps xDrawL vwanted isDefer vop kindOf vpure ev evs toV atTo_some Fr.dsTo Fr.glTo Fr.toNone initFr_at initFr_ds initFr_gl veff vact traverse tupled vresult V.undef evOpt sameIn nn_eql nn_neq nn_lss nn_leq nn_gtr nn_geq nl_eql nl_neq nl_lss nl_leq nl_gtr nl_geq vbin_seql vbin_sneq vload_ctr vbin_add vbin_sub wrap_i64 veq_str veq_int fcp0 fcp1 fcp2 fcp3 fcp4 fcp5 fg0 fg1 fg2 fg3 fg4 fg5
class NA [Memo] : Prop where
  awake : ∀ st : St, (Memo.look 8).run [] st = some (.bool true, st)
theorem all2_refl {α : Type} {p : α → α → Bool} (h : ∀ a, p a a = true) : ∀ l : List α, all2 p l l = true
  | [] => rfl
  | a :: l => by rw [all2, h, all2_refl h l]; rfl
theorem sameF_refl (f : Fw) : sameF f f = true := by
  have h1 : all2 eqI f.kids f.kids = true := all2_refl (fun a => by simp [eqI]) _
  simp [sameF, all2_same_refl, h1]
theorem same_texts : ∀ {a b : List S}, a.map S.toList = b.map S.toList → all2 S.same a b = true
  | [], [], _ => rfl
  | [], _ :: _, h => by simp at h
  | _ :: _, [], h => by simp at h
  | x :: a, y :: b, h => by
    simp only [List.map_cons, List.cons.injEq] at h
    rw [all2, same_texts h.2, S.same_eq, h.1]
    simp
variable [Memo] [NY] [NZ] [NO] [NA]
omit [NY] [NZ] [NO] in
theorem awake_ok (gl : Gl) (st : St) : Says Tryz.prog gl 8 [] st fun v st' => v = .bool true ∧ Sm st st' := ⟨_, _, W_known (NA.awake st), rfl, rfl⟩
omit [NZ] [NO] [NA] in
theorem wPlaceM (gl : Gl) {aL : List V} (hh : Hits gl aL) (st : St) (x : V) (l : List Fw) (n : Int) (hx : Row Fw.cells x l) (hok : ∀ f ∈ l, f.ok) (hs : ∀ f ∈ l, f.small) (hl : l.length ≤ 60) : Says Tryz.prog gl 11 [x, .int .i64 n] st fun v st' => PlaceR st.ctr (mayP l) l n st' v ∧ Keep st st' :=
  wPlace gl hh st x l n hx hok hs hl fun hm m hmm => tour_find hm m hmm
omit [NZ] [NO] [NA] in
theorem wPlaceN (gl : Gl) {aL : List V} (hh : Hits gl aL) (st : St) (x : V) (l : List Fw) (n : Nat) (hn : n < l.length) (hx : Row Fw.cells x l) (hok : ∀ f ∈ l, f.ok) (hs : ∀ f ∈ l, f.small) (hl : l.length ≤ 60) (hM : mayP l = true) : Says Tryz.prog gl 11 [x, .int .i64 (n : Int)] st fun v st' => (∃ y, v = .tup [y, .int .i64 0] ∧ Mine st.ctr 9 st' y ((placeL l n).map .str)) ∧ Keep st st' := by
  refine (wPlaceM gl hh st x l (n : Int) hx hok hs hl).mono fun v st' h => ?_
  obtain ⟨⟨y, h1, h2⟩, h3⟩ := h
  rw [hM, placeE_in hn] at h1
  rw [hM, placeS_in hn] at h2
  exact ⟨⟨y, h1, h2⟩, h3⟩
set_option maxHeartbeats 2000000 in
set_option maxRecDepth 100000 in
theorem law3 (gl : Gl) {aL : List V} (hh : Hits gl aL) (hw : gl.get 0 = some wordsV) (st : St) (x y : V) (l : List Fw) (p : List S) (hx : Row Fw.cells x l) (hok : ∀ f ∈ l, f.ok) (hy : Vw st y p) :
    Says Tryz.prog gl 3 [x, y] st (fun v st' => v = .bool true) := by
  refine saysK (NY.no _ rfl rfl rfl _ _) Tryz.func3 rfl (by kernel_rfl) fun R hR K gr gn => ?_
  generalize hfr : initFr gl [x, y] = fr
  have hF : Fs gl [(0, x), (1, y)] fr := by subst hfr; simp [Fs]
  simp only [Fs] at hF
  clear hfr
  obtain ⟨v, s1, hc, ⟨b, rfl, hb⟩, hk1⟩ := Says.use (long_ok gl st x l hx hok) (by kernel_rfl)
  have lx := hx.len Tryz.underlying22
  have ly := hy.len Tryz.underlying23
  obtain ⟨v, sa, hca, rfl, hsa⟩ := Says.use (awake_ok gl s1) (by kernel_rfl)
  rw [show sa = s1 from hsa] at hca
  clear hsa
  cases b with
  | true =>
    refine DoK.seq ?_
    refine DoK.regG (gs := [none]) (by kernel_rfl) fun K1 gK => ?_
    simp (maxSteps := 1000000) (disch := omega) []
    refine gK _ _ ?_
    clear gK K1
    refine DoK.seq ?_
    refine DoK.seq ?_
    refine DoK.regG (gs := [none, none, none, some (some 18, false), some (some 18, false), some (some 18, false), none, none, some (some 23, false), some (some 23, false), none]) (by kernel_rfl) fun K1 gK => ?_
    simp (maxSteps := 1000000) (disch := omega) [hF, hc]
    refine gK _ _ ?_
    clear gK K1
    refine DoK.condT (by simp (maxSteps := 1000000) (disch := omega) []) ?_
    refine DoK.seq ?_
    refine DoK.regG (gs := [none, none]) (by kernel_rfl) fun K1 gK => ?_
    simp (maxSteps := 1000000) (disch := omega) [hF, hca]
    refine gK _ _ ?_
    clear gK K1
    refine DoK.ret (gr _ _ ?_)
    simp [Ends, Tryz.f3, hF]
    refine hR _ _ ?_
    rfl
  | false =>
    obtain ⟨hl, hs⟩ := hb rfl
    by_cases h60 : 60 < p.length
    ·
      refine DoK.seq ?_
      refine DoK.regG (gs := [none]) (by kernel_rfl) fun K1 gK => ?_
      simp (maxSteps := 1000000) (disch := omega) []
      refine gK _ _ ?_
      clear gK K1
      refine DoK.seq ?_
      refine DoK.seq ?_
      refine DoK.regG (gs := [none, none, none, some (some 18, false), some (some 18, false), some (some 18, false), none, none, some (some 23, false), some (some 23, false), none]) (by kernel_rfl) fun K1 gK => ?_
      simp (maxSteps := 1000000) (disch := omega) [hF, hc, ly, h60]
      refine gK _ _ ?_
      clear gK K1
      refine DoK.condT (by simp (maxSteps := 1000000) (disch := omega) []) ?_
      refine DoK.seq ?_
      refine DoK.regG (gs := [none, none]) (by kernel_rfl) fun K1 gK => ?_
      simp (maxSteps := 1000000) (disch := omega) [hF, hca]
      refine gK _ _ ?_
      clear gK K1
      refine DoK.ret (gr _ _ ?_)
      simp [Ends, Tryz.f3, hF]
      refine hR _ _ ?_
      rfl
    ·
      obtain ⟨v, s2, hsh, ⟨z, ts, rfl, hts, hz⟩, hk2⟩ := Says.use (wShow gl hh hw s1 x l hx hok hs hl) (by kernel_rfl)
      obtain ⟨v, s3, hmay, rfl, hk3⟩ := Says.use (wMayP_ok gl hh s2 x l hx hok hs hl) (by kernel_rfl)
      have lz := hz.len Tryz.underlying23
      rw [List.length_map] at lz
      have hk13 : Keep st s3 := (hk1.trans hk2).trans hk3
      obtain ⟨M, hM⟩ : ∃ M, mayP l = M := ⟨_, rfl⟩
      rw [hM] at hsh hmay hts
      cases M with
      | true =>
        have hmf := mayP_iff.1 hM
        have hlen : ts.length = l.length := by
          have := congrArg List.length hts
          simpa [tour_len hmf] using this
        rw [hlen] at lz
        refine DoK.seq ?_
        refine DoK.regG (gs := [none]) (by kernel_rfl) fun K1 gK => ?_
        simp (maxSteps := 1000000) (disch := omega) []
        refine gK _ _ ?_
        clear gK K1
        refine DoK.seq ?_
        refine DoK.seq ?_
        refine DoK.regG (gs := [none, none, none, some (some 18, false), some (some 18, false), some (some 18, false), none, none, some (some 23, false), some (some 23, false), none]) (by kernel_rfl) fun K1 gK => ?_
        simp (maxSteps := 1000000) (disch := omega) [hF, hc, ly, hca, h60]
        refine gK _ _ ?_
        clear gK K1
        refine DoK.condF (by simp (maxSteps := 1000000) (disch := omega) []) ?_
        refine DoK.skip ?_
        refine DoK.seq ?_
        refine DoK.regG (gs := [none, none, none, none, none, none, none]) (by kernel_rfl) fun K1 gK => ?_
        simp (maxSteps := 1000000) (disch := omega) [hF, hsh]
        refine gK _ _ ?_
        clear gK K1
        refine DoK.seq ?_
        refine DoK.seq ?_
        refine DoK.regG (gs := [none, none, none, none, none]) (by kernel_rfl) fun K1 gK => ?_
        simp (maxSteps := 1000000) (disch := omega) [hF, bne4, vbin_eql, hmay]
        refine gK _ _ ?_
        clear gK K1
        refine DoK.condF (by simp (maxSteps := 1000000) (disch := omega) []) ?_
        refine DoK.skip ?_
        refine DoK.seq ?_
        refine DoK.seq ?_
        refine DoK.regG (gs := [none, none]) (by kernel_rfl) fun K1 gK => ?_
        simp (maxSteps := 1000000) (disch := omega) [vbin_neq]
        refine gK _ _ ?_
        clear gK K1
        refine DoK.condF (by simp (maxSteps := 1000000) (disch := omega) []) ?_
        refine DoK.skip ?_
        refine DoK.seq ?_
        refine DoK.seq ?_
        refine DoK.regG (gs := [none, none, none, none, none]) (by kernel_rfl) fun K1 gK => ?_
        simp (maxSteps := 1000000) (disch := omega) [hF, lx, vbin_neq, lz]
        refine gK _ _ ?_
        clear gK K1
        refine DoK.condF (by simp (maxSteps := 1000000) (disch := omega) []) ?_
        refine DoK.skip ?_
        refine DoK.seq ?_
        refine DoK.seq ?_
        refine DoK.regG (gs := [none]) (by kernel_rfl) fun K1 gK => ?_
        simp (maxSteps := 1000000) (disch := omega) []
        refine gK _ _ ?_
        clear gK K1
        refine DoK.loop (l.length) (fun i fr st' => Fs gl [(0, x), (1, y), (7, .int .i64 (i : Int))] fr ∧ i ≤ l.length ∧ Keep st st') (0) (fun fr st' => Fs gl [(0, x), (1, y)] fr ∧ Keep st st') ?_ ?_ ?_ ?_
        · exact ⟨by simp [Fs, hF], Nat.zero_le _, hk13⟩
        · rintro i fr st' ⟨_, hi, hk⟩
          omega
        · as_aux_lemma =>
          clear hF
          rintro i fr st' ⟨hF, hi, hk⟩ K1 gk1 gx1 go1
          simp only [Fs] at hF
          have gr1 := fun fr st h => go1 AE.ret fr st trivial (gr fr st h)
          refine DoK.seq ?_
          refine DoK.seq ?_
          refine DoK.regG (gs := [none, none, none, none]) (by kernel_rfl) fun K1 gK => ?_
          simp (maxSteps := 1000000) (disch := omega) [hF, lx]
          refine gK _ _ ?_
          clear gK K1
          by_cases hi2 : i < l.length
          ·
            refine DoK.condT (by simp (maxSteps := 1000000) (disch := omega) [hi2]) ?_
            obtain ⟨v, s4, hc4, ⟨z4, rfl, hz4⟩, hk4⟩ := Says.use (wPlaceN gl hh st' x l i hi2 hx hok hs hl hM) (by kernel_rfl)
            have hle := place_lenL hmf i hi2
            obtain ⟨v, s5, hc5, rfl, hk5⟩ := Says.use (wFind gl hh s4 x z4 l (placeL l i) hx hok hs hl hz4.vw (by omega)) (by kernel_rfl)
            rw [hM, show findV true l (placeL l i) = foundV (findL l 0 (placeL l i)) from rfl, find_place hmf i hi2, foundV] at hc5
            refine DoK.skip ?_
            refine DoK.seq ?_
            refine DoK.block fun K2 gn2 gx2 go2 => ?_
            have gr2 := fun fr st h => go2 AE.ret fr st trivial (gr1 fr st h)
            have gx2_0 := fun fr st h => go2 (AE.exit 0) fr st (show (0 : Nat) ≠ 1 by decide) (gx1 fr st h)
            refine DoK.seq ?_
            refine DoK.regG (gs := [none, none, none, none, none, none, none, none]) (by kernel_rfl) fun K1 gK => ?_
            simp (maxSteps := 1000000) (disch := omega) [hF, hi2, hc4]
            refine gK _ _ ?_
            clear gK K1
            refine DoK.seq ?_
            refine DoK.regG (gs := [none, none, none, none, none, none, none, none, none, none]) (by kernel_rfl) fun K1 gK => ?_
            simp (maxSteps := 1000000) (disch := omega) [hF, hc5]
            refine gK _ _ ?_
            clear gK K1
            refine DoK.seq ?_
            refine DoK.regG (gs := [none, none, none, some (some 69, false), some (some 69, false), none, none, some (some 73, false), some (some 73, false), none, none, some (some 77, false), some (some 77, false), some (some 77, false), none]) (by kernel_rfl) fun K1 gK => ?_
            simp (maxSteps := 1000000) (disch := omega) [hF, vbin_neq]
            refine gK _ _ ?_
            clear gK K1
            refine DoK.condF (by simp (maxSteps := 1000000) (disch := omega) []) ?_
            refine DoK.skip ?_
            refine gn2 _ _ ?_
            refine DoK.regG (gs := [none, none, none]) (by kernel_rfl) fun K1 gK => ?_
            simp (maxSteps := 1000000) (disch := omega) [hF]
            refine gK _ _ ?_
            clear gK K1
            refine gk1 (i + 1) _ _ (by omega) ⟨by simp [Fs, hF], by omega, (hk.trans hk4).trans hk5⟩
          ·
            refine DoK.condF (by simp (maxSteps := 1000000) (disch := omega) [hi2]) ?_
            exact DoK.exit (gx1 _ _ ⟨by simp [Fs, hF, hi2], hk⟩)
        · as_aux_lemma =>
          clear hF
          rintro fr st' ⟨hF, hk⟩
          simp only [Fs] at hF
          obtain ⟨v, s6, hc6, rfl, hk6⟩ := Says.use (wFind gl hh st' x y l p hx hok hs hl (hy.keep hk) (by omega)) (by kernel_rfl)
          rw [hM, show findV true l p = foundV (findL l 0 p) from rfl] at hc6
          obtain ⟨o, ho⟩ : ∃ o, findL l 0 p = o := ⟨_, rfl⟩
          rw [ho] at hc6
          cases o with
          | none =>
            simp only [foundV] at hc6
            refine DoK.seq ?_
            refine DoK.regG (gs := [none, none, none, none, none, none, none, none, none, none]) (by kernel_rfl) fun K1 gK => ?_
            simp (maxSteps := 1000000) (disch := omega) [hF, hc6]
            refine gK _ _ ?_
            clear gK K1
            refine DoK.seq ?_
            refine DoK.seq ?_
            refine DoK.regG (gs := [none, none, none, some (some 91, false), some (some 91, false), none]) (by kernel_rfl) fun K1 gK => ?_
            simp (maxSteps := 1000000) (disch := omega) [vbin_neq]
            refine gK _ _ ?_
            clear gK K1
            refine DoK.condT (by simp (maxSteps := 1000000) (disch := omega) []) ?_
            refine DoK.seq ?_
            refine DoK.regG (gs := [none, none, none, some (some 97, true), some (some 97, true), none, none]) (by kernel_rfl) fun K1 gK => ?_
            simp (maxSteps := 1000000) (disch := omega) [vbin_eql]
            refine gK _ _ ?_
            clear gK K1
            refine DoK.ret (gr _ _ ?_)
            simp [Ends, Tryz.f3, hF]
            refine hR _ _ ?_
            rfl
          | some m =>
            simp only [foundV] at hc6
            obtain ⟨hm1, hm2⟩ := place_find hmf p 0 m hmf.pos ho
            rw [placeL_zero, List.nil_append] at hm2
            obtain ⟨v, s7, hc7, ⟨z7, rfl, hz7⟩, hk7⟩ := Says.use (wPlaceN gl hh s6 x l m hm1 hx hok hs hl hM) (by kernel_rfl)
            have hle7 := place_lenL hmf m hm1
            obtain ⟨v, s8, hc8, rfl, hk8⟩ := Says.use (sameS_ok gl s7 z7 y (placeL l m) p hz7.vw (((hy.keep hk).keep hk6).keep hk7) (by omega)) (by kernel_rfl)
            rw [hm2] at hc8
            refine DoK.seq ?_
            refine DoK.regG (gs := [none, none, none, none, none, none, none, none, none, none]) (by kernel_rfl) fun K1 gK => ?_
            simp (maxSteps := 1000000) (disch := omega) [hF, hc6]
            refine gK _ _ ?_
            clear gK K1
            refine DoK.seq ?_
            refine DoK.seq ?_
            refine DoK.regG (gs := [none, none, none, some (some 91, false), some (some 91, false), none]) (by kernel_rfl) fun K1 gK => ?_
            simp (maxSteps := 1000000) (disch := omega) [vbin_neq]
            refine gK _ _ ?_
            clear gK K1
            refine DoK.condF (by simp (maxSteps := 1000000) (disch := omega) []) ?_
            refine DoK.skip ?_
            refine DoK.seq ?_
            refine DoK.regG (gs := [none, none, none, none, none, none, none, none]) (by kernel_rfl) fun K1 gK => ?_
            simp (maxSteps := 1000000) (disch := omega) [hF, hc7]
            refine gK _ _ ?_
            clear gK K1
            refine DoK.seq ?_
            refine DoK.regG (gs := [none, none, none, some (some 109, true), some (some 109, true), some (some 109, true), none, none]) (by kernel_rfl) fun K1 gK => ?_
            simp (maxSteps := 1000000) (disch := omega) [hF, vbin_eql, hc8]
            refine gK _ _ ?_
            clear gK K1
            refine DoK.ret (gr _ _ ?_)
            simp [Ends, Tryz.f3, hF]
            refine hR _ _ ?_
            rfl
      | false =>
        have hts0 : ts = [] := by simpa using hts
        rw [hts0] at lz
        refine DoK.seq ?_
        refine DoK.regG (gs := [none]) (by kernel_rfl) fun K1 gK => ?_
        simp (maxSteps := 1000000) (disch := omega) []
        refine gK _ _ ?_
        clear gK K1
        refine DoK.seq ?_
        refine DoK.seq ?_
        refine DoK.regG (gs := [none, none, none, some (some 18, false), some (some 18, false), some (some 18, false), none, none, some (some 23, false), some (some 23, false), none]) (by kernel_rfl) fun K1 gK => ?_
        simp (maxSteps := 1000000) (disch := omega) [hF, hc, ly, hca, h60]
        refine gK _ _ ?_
        clear gK K1
        refine DoK.condF (by simp (maxSteps := 1000000) (disch := omega) []) ?_
        refine DoK.skip ?_
        refine DoK.seq ?_
        refine DoK.regG (gs := [none, none, none, none, none, none, none]) (by kernel_rfl) fun K1 gK => ?_
        simp (maxSteps := 1000000) (disch := omega) [hF, hsh]
        refine gK _ _ ?_
        clear gK K1
        refine DoK.seq ?_
        refine DoK.seq ?_
        refine DoK.regG (gs := [none, none, none, none, none]) (by kernel_rfl) fun K1 gK => ?_
        simp (maxSteps := 1000000) (disch := omega) [hF, bne4, vbin_eql, hmay]
        refine gK _ _ ?_
        clear gK K1
        refine DoK.condF (by simp (maxSteps := 1000000) (disch := omega) []) ?_
        refine DoK.skip ?_
        refine DoK.seq ?_
        refine DoK.seq ?_
        refine DoK.regG (gs := [none, none]) (by kernel_rfl) fun K1 gK => ?_
        simp (maxSteps := 1000000) (disch := omega) [vbin_neq]
        refine gK _ _ ?_
        clear gK K1
        refine DoK.condT (by simp (maxSteps := 1000000) (disch := omega) []) ?_
        refine DoK.seq ?_
        refine DoK.regG (gs := [none, none, none, none]) (by kernel_rfl) fun K1 gK => ?_
        simp (maxSteps := 1000000) (disch := omega) [vbin_eql, lz]
        refine gK _ _ ?_
        clear gK K1
        refine DoK.ret (gr _ _ ?_)
        simp [Ends, Tryz.f3, hF]
        refine hR _ _ ?_
        rfl
end Go.Vm
namespace Go.Vm
open Go Go.Proofs Go.Pa
noncomputable def patGl : Gl := (.nil : Gl).put 0 wordsV
theorem patGl_get : patGl.get 0 = some wordsV := by simp [patGl, Tr.get_put]
theorem pat_free : patGl.allB (fun l => l.all (freeV true 50)) = true := by kernel_rfl
theorem pat_mixed : Tryz.prog.follows .mixedOrders = true := by kernel_rfl
abbrev kSet : Ent := ⟨91, [.str specialS], .tup [.agg asciiL, .bool true]⟩
abbrev kBad : Ent := ⟨89, [.str specialS, .int .i32 65533], .int .i64 (-1)⟩
abbrev kAwake : Ent := ⟨8, [], .bool true⟩
def sm1 : S := S.ofList (((List.range 10).map fun n => UInt8.ofNat (48 + n)) ++ (List.range 26).map fun n => UInt8.ofNat (97 + n))
def sm2 : S := S.ofList ((List.range 100).flatMap fun n => [UInt8.ofNat (48 + n / 10), UInt8.ofNat (48 + n % 10)])
def itoaS (n : Nat) : S := if n < 10 then sm1.cut n (n + 1) else sm2.cut (n * 2) (n * 2 + 2)
theorem itoaS_ok : ∀ n, n ≤ 60 → (itoaS n).toList = digB n := by
  have h : ((List.range 61).all fun n => (itoaS n).toList == digB n) = true := by kernel_rfl
  intro n hn
  have := List.all_eq_true.1 h n (List.mem_range.2 (by omega))
  exact eq_of_beq this
def kItoa (n : Nat) : Ent := ⟨49, [.int .i64 (n : Int)], .str (itoaS n)⟩
def kDigits (n : Nat) : Ent := ⟨56, [.int .i64 (n : Int)], .str (S.ofList (digB n))⟩
theorem kSet_ok : EntOk Tryz.prog patGl kSet :=
  entOk_of_run pat_mixed rules_nil pat_free (n := 1000000) (by kernel_rfl) (by kernel_rfl) (by kernel_rfl)
theorem kBad_ok : EntOk Tryz.prog patGl kBad :=
  entOk_of_run pat_mixed rules_nil pat_free (n := 1000000) (by kernel_rfl) (by kernel_rfl) (by kernel_rfl)
theorem kAwake_ok : EntOk Tryz.prog patGl kAwake :=
  entOk_of_run pat_mixed rules_nil pat_free (n := 1000000) (by kernel_rfl) (by kernel_rfl) (by kernel_rfl)
def kNums : List Ent := (List.range 61).map kItoa ++ (List.range 61).map kDigits
theorem kNums_ok : ∀ e ∈ kNums, EntOk Tryz.prog patGl e :=
  ents_of_runs pat_mixed rules_nil pat_free (n := 1000000) (by kernel_rfl)
theorem mfF_skip (f : Nat) (args : List V) (st : St) : ∀ (A B : List Rule), (∀ e ∈ A, Nat.beq e.f f = false ∨ e.run args st = none) → (mfF f (A ++ B)).run args st = (mfF f B).run args st
  | [], B, _ => rfl
  | a :: A, B, h => by
    have ih := mfF_skip f args st A B fun e he => h e (by simp [he])
    simp only [List.cons_append, mfF]
    cases hb : Nat.beq a.f f with
    | false => exact ih
    | true =>
      rcases h a (by simp) with h1 | h1
      · rw [h1] at hb; cases hb
      · simp only [h1]; exact ih
theorem mfF_none {f : Nat} {args : List V} {st : St} {L : List Rule} (h : ∀ e ∈ L, Nat.beq e.f f = false ∨ e.run args st = none) : (mfF f L).run args st = none := by
  have := mfF_skip f args st L [] h
  rw [List.append_nil] at this
  rw [this]; rfl
theorem mfF_found {f : Nat} {args : List V} {st : St} {p : V × St} : ∀ {L : List Rule}, (∃ e ∈ L, e.f = f ∧ e.run args st = some p) → (∀ e ∈ L, e.f = f → e.run args st = none ∨ e.run args st = some p) → (mfF f L).run args st = some p
  | [], h, _ => by obtain ⟨e, he, _⟩ := h; cases he
  | a :: L, h, hu => by
    simp only [mfF]
    cases hb : Nat.beq a.f f with
    | false =>
      refine mfF_found (L := L) ?_ fun e he => hu e (by simp [he])
      obtain ⟨e, he, hf, hr⟩ := h
      rcases List.mem_cons.1 he with rfl | he
      · rw [hf, Nat.beq_refl] at hb; cases hb
      · exact ⟨e, he, hf, hr⟩
    | true =>
      have hf := Nat.eq_of_beq_eq_true hb
      rcases hu a (by simp) hf with h1 | h1
      · simp only [h1]
        refine mfF_found (L := L) ?_ fun e he => hu e (by simp [he])
        obtain ⟨e, he, hf', hr⟩ := h
        rcases List.mem_cons.1 he with rfl | he
        · rw [h1] at hr; cases hr
        · exact ⟨e, he, hf', hr⟩
      · simp only [h1]
theorem fveqs_int {k : IntKind} {a b : Nat} : fveqs [.int k (a : Int)] [.int k (b : Int)] = Nat.beq a b := by
  have hk : Nat.beq (kc k) (kc k) = true := Nat.beq_refl _
  show (match (true : Bool) with | true => fveq (.int k (a : Int)) (.int k (b : Int)) | false => false) = _
  show (match Nat.beq a b with | true => Nat.beq (kc k) (kc k) | false => false) = _
  cases Nat.beq a b with
  | true => exact hk
  | false => rfl
end Go.Vm
namespace Go.Vm
open Go Go.Proofs Go.Pa
def onceBx : Tr Bx := ((.nil : Tr Bx).put 0 (.cells oldsV 9 false (some 0))).put 1 (.cells [.int .u32 0, .int .i32 0, .int .u32 0, .nili, .ms 0 0 4 1 none] 78 true (some 0))
def onceS : St := ⟨2, onceBx⟩
def isBx (b : Option Bx) (l : List V) (e : TypeId) (fl : Bool) (fz : Option Nat) : Bool := match b with
  | some (.cells l' e' fl' fz') => veqs 1000 l' l && (Nat.beq e' e && ((fl' == fl) && (fz' == fz)))
  | _ => false
theorem isBx_eq {b : Option Bx} {l : List V} {e : TypeId} {fl : Bool} {fz : Option Nat} (h : isBx b l e fl fz = true) : b = some (.cells l e fl fz) := by
  unfold isBx at h
  split at h
  · simp only [Bool.and_eq_true] at h
    obtain ⟨h1, h2, h3, h4⟩ := h
    rw [veqs_eq _ _ _ h1, Nat.eq_of_beq_eq_true h2, eq_of_beq h3, eq_of_beq h4]
  · cases h
noncomputable def onceGood : Bool := match @FX Tryz.prog Memo.none 1000000 (.call patGl 46 [.ptr 1 0, .fn 47 [.ptr 1 0] []]) onceS with
  | .call (.val v s) => veq 50 v (.tup []) && (isBx (s.box.get 0) oldsV 9 false (some 0) && (isBx (s.box.get 1) [.int .u32 1, .int .i32 0, .int .u32 0, .iface 114 (.ptr 3 0), .nils] 78 true (some 0) &&
      (isBx (s.box.get 2) [.str (S.ofList [10]), .str (S.ofList [92])] 9 true (some 0) && (isBx (s.box.get 3) (TC 6 9 2) 113 true (some 0) &&
      (isBx (s.box.get 6) [.int .u8 92, .int .u8 110] 5 false none && isBx (s.box.get 9) [.int .u8 92, .int .u8 92] 5 false none)))))
  | _ => false
theorem once_good : onceGood = true := by kernel_rfl
def after46 (st : St) (r : Nat) : St := ⟨st.ctr + 4, ((((st.box.put r (.cells [.int .u32 1, .int .i32 0, .int .u32 0, .iface 114 (.ptr st.ctr 0), .nils] 78 true (some 0))).put st.ctr (.cells (TC (st.ctr + 2) (st.ctr + 3) (st.ctr + 1)) 113 true (some 0))).put (st.ctr + 1) (.cells [.str (S.ofList [10]), .str (S.ofList [92])] 9 true (some 0))).put (st.ctr + 2) (.cells [.int .u8 92, .int .u8 110] 5 false none)).put (st.ctr + 3) (.cells [.int .u8 92, .int .u8 92] 5 false none)⟩
open Classical in
noncomputable def onceRule : Rule := ⟨46, fun args st => match args with
  | [.ptr r 0, .fn 47 [.ptr r' 0] []] => if r' = r ∧ ∃ o, Raw st r o then some (.tup [], after46 st r) else none
  | _ => none⟩
theorem once_hit {args : List V} {st : St} {p : V × St} (h : onceRule.run args st = some p) : ∃ r o, args = [.ptr r 0, .fn 47 [.ptr r 0] []] ∧ Raw st r o ∧ p = (.tup [], after46 st r) := by
  simp only [onceRule] at h
  split at h
  · split at h
    · rename_i hc
      obtain ⟨rfl, o, ho⟩ := hc
      exact ⟨_, o, rfl, ho, (Option.some.inj h).symm⟩
    · cases h
  · cases h
theorem once_yes {st : St} {r o : Nat} (h : Raw st r o) : onceRule.run [.ptr r 0, .fn 47 [.ptr r 0] []] st = some (.tup [], after46 st r) := by
  simp only [onceRule]
  rw [if_pos ⟨rfl, o, h⟩]
set_option maxRecDepth 1000000 in
theorem once_ran : ∃ N s1, @X Tryz.prog Memo.none N (.call patGl 46 [.ptr 1 0, .fn 47 [.ptr 1 0] []]) onceS = .call (.val (.tup []) s1) ∧ s1.box.get 0 = some (.cells oldsV 9 false (some 0)) ∧ s1.box.get 1 = some (.cells [.int .u32 1, .int .i32 0, .int .u32 0, .iface 114 (.ptr 3 0), .nils] 78 true (some 0)) ∧
    s1.box.get 2 = some (.cells [.str (S.ofList [10]), .str (S.ofList [92])] 9 true (some 0)) ∧ s1.box.get 3 = some (.cells (TC 6 9 2) 113 true (some 0)) ∧ s1.box.get 6 = some (.cells [.int .u8 92, .int .u8 110] 5 false none) ∧ s1.box.get 9 = some (.cells [.int .u8 92, .int .u8 92] 5 false none) := by
  letI : Memo := Memo.none
  have h := once_good
  unfold onceGood at h
  rcases FX_ok Tryz.prog 1000000 (.call patGl 46 [.ptr 1 0, .fn 47 [.ptr 1 0] []]) onceS with ⟨w, hw⟩ | ⟨N, hN⟩
  · rw [hw] at h; cases h
  · cases hf : FX Tryz.prog 1000000 (.call patGl 46 [.ptr 1 0, .fn 47 [.ptr 1 0] []]) onceS with
    | call r =>
      rw [hf] at h
      cases r with
      | val u s1 =>
        simp only [Bool.and_eq_true] at h
        obtain ⟨h0, h1, h2, h3, h4, h5, h6⟩ := h
        exact ⟨N, s1, by rw [hN N (Nat.le_refl N), hf, veq_eq _ _ _ h0], isBx_eq h1, isBx_eq h2, isBx_eq h3, isBx_eq h4, isBx_eq h5, isBx_eq h6⟩
      | _ => cases h
    | _ => rw [hf] at h; cases h
def onceR (r o c : Nat) : Nat → Nat
  | 0 => o
  | 1 => r
  | 2 => c + 1
  | 3 => c
  | 6 => c + 2
  | 9 => c + 3
  | _ => 0
def onceA (i : Nat) : Bool := Nat.beq i 0 || Nat.beq i 1
def onceK (i : Nat) : Bool := Nat.beq i 0 || (Nat.beq i 1 || (Nat.beq i 2 || (Nat.beq i 3 || (Nat.beq i 6 || Nat.beq i 9))))
theorem onceA_iff {i : Nat} : onceA i = true ↔ i = 0 ∨ i = 1 := by
  simp only [onceA, Bool.or_eq_true, Nat.beq_eq]
theorem onceK_iff {i : Nat} : onceK i = true ↔ i = 0 ∨ i = 1 ∨ i = 2 ∨ i = 3 ∨ i = 6 ∨ i = 9 := by
  simp only [onceK, Bool.or_eq_true, Nat.beq_eq]
theorem renVs_map {ρ : Nat → Nat} : ∀ l : List V, renVs ρ l = l.map (renV ρ)
  | [] => rfl
  | a :: l => by rw [renVs, renVs_map l]; rfl
theorem inVs_all {p : Bool} {K : Nat → Bool} : ∀ {l : List V}, (∀ v ∈ l, inV p K v = true) → inVs p K l = true
  | [], _ => rfl
  | a :: l, h => by rw [inVs, h a (by simp), inVs_all fun v hv => h v (by simp [hv])]; rfl
set_option maxRecDepth 100000 in
theorem ren_TC {ρ : Nat → Nat} {b1 b2 a : Nat} : renVs ρ (TC b1 b2 a) = TC (ρ b1) (ρ b2) (ρ a) := by
  rw [renVs_map]
  unfold TC
  rw [List.map_append, List.map_map]
  congr 1
theorem in_TC {K : Nat → Bool} {b1 b2 a : Nat} (h1 : K b1 = true) (h2 : K b2 = true) (h3 : K a = true) : inVs false K (TC b1 b2 a) = true := inVs_all fun v hv => by
  unfold TC at hv
  rcases List.mem_append.1 hv with hv | hv
  · obtain ⟨i, _, rfl⟩ := List.mem_map.1 hv
    unfold repV
    split
    · exact h1
    · split
      · exact h2
      · rfl
  · rw [List.mem_singleton.1 hv]; exact h3
theorem once_rule : RuleOk Tryz.prog patGl onceRule := by
  intro args st v st' hr base g w cargs hgl hi hrs
  obtain ⟨r, o, rfl, hraw, hp⟩ := once_hit hr
  obtain ⟨rfl, rfl⟩ := Prod.mk.inj hp
  obtain ⟨N, s1, hx, x0, x1, x2, x3, x6, x9⟩ := once_ran
  letI : Memo := Memo.none
  obtain ⟨rb, ob, rlt, olt, hne⟩ := hraw
  have g0 : onceS.box.get 0 = some (.cells oldsV 9 false (some 0)) := by simp [onceS, onceBx, Tr.get_put]
  have g1 : onceS.box.get 1 = some (.cells [.int .u32 0, .int .i32 0, .int .u32 0, .nili, .ms 0 0 4 1 none] 78 true (some 0)) := by simp [onceS, onceBx, Tr.get_put]
  have gn : ∀ i, i ≠ 0 → i ≠ 1 → onceS.box.get i = none := fun i h0 h1 => by simp [onceS, onceBx, Tr.get_put, h0, h1]; rfl
  have fr : ∀ k, st.ctr ≤ k → st.box.get k = none := fun k hk => (hi.fresh k hk).2
  have bxr : ∀ i, (after46 st r).box.get i = if i = st.ctr + 3 then some (.cells [.int .u8 92, .int .u8 92] 5 false none) else if i = st.ctr + 2 then some (.cells [.int .u8 92, .int .u8 110] 5 false none) else if i = st.ctr + 1 then some (.cells [.str (S.ofList [10]), .str (S.ofList [92])] 9 true (some 0)) else if i = st.ctr then some (.cells (TC (st.ctr + 2) (st.ctr + 3) (st.ctr + 1)) 113 true (some 0)) else if i = r then some (.cells [.int .u32 1, .int .i32 0, .int .u32 0, .iface 114 (.ptr st.ctr 0), .nils] 78 true (some 0)) else st.box.get i := fun i => by
    simp only [after46, Tr.get_put]
  have M : Moves onceS s1 onceA onceK (onceR r o st.ctr) st (after46 st r) := {
    small := fun i h => by
      rcases onceA_iff.1 h with rfl | rfl
      · exact ⟨by decide, by rw [g0]; simp⟩
      · exact ⟨by decide, by rw [g1]; simp⟩
    all := fun i x h => by
      by_cases h0 : i = 0
      · subst h0; rw [g0] at h; cases h; exact ⟨rfl, rfl, ob⟩
      · by_cases h1 : i = 1
        · subst h1; rw [g1] at h; cases h; exact ⟨rfl, rfl, rb⟩
        · rw [gn i h0 h1] at h; cases h
    low := fun i h => by
      rcases onceA_iff.1 h with rfl | rfl
      · exact olt
      · exact rlt
    inj := fun i j hi hj he => by
      have hk : ∀ i, (onceA i = true ∨ onceK i = true) → i = 0 ∨ i = 1 ∨ i = 2 ∨ i = 3 ∨ i = 6 ∨ i = 9 := fun i h => by
        rcases h with h | h
        · rcases onceA_iff.1 h with h | h
          · exact .inl h
          · exact .inr (.inl h)
        · exact onceK_iff.1 h
      rcases hk i hi with rfl | rfl | rfl | rfl | rfl | rfl <;> rcases hk j hj with rfl | rfl | rfl | rfl | rfl | rfl <;> simp only [onceR] at he <;> omega
    high := fun i h hk => by
      have h2 : 2 ≤ i := h
      rcases onceK_iff.1 hk with rfl | rfl | rfl | rfl | rfl | rfl <;> simp only [onceR, after46] <;> omega
    kept := fun i x hk hb => by
      rcases onceK_iff.1 hk with rfl | rfl | rfl | rfl | rfl | rfl
      · rw [x0] at hb; cases hb
        refine ⟨rfl, ?_⟩
        show (after46 st r).box.get o = _
        rw [bxr, if_neg (by omega), if_neg (by omega), if_neg (by omega), if_neg (by omega), if_neg (Ne.symm hne), ob]; rfl
      · rw [x1] at hb; cases hb
        refine ⟨rfl, ?_⟩
        show (after46 st r).box.get r = _
        rw [bxr, if_neg (by omega), if_neg (by omega), if_neg (by omega), if_neg (by omega), if_pos rfl]; rfl
      · rw [x2] at hb; cases hb
        refine ⟨rfl, ?_⟩
        show (after46 st r).box.get (st.ctr + 1) = _
        rw [bxr, if_neg (by omega), if_neg (by omega), if_pos rfl]; rfl
      · rw [x3] at hb; cases hb
        refine ⟨in_TC rfl rfl rfl, ?_⟩
        show (after46 st r).box.get st.ctr = _
        rw [bxr, if_neg (by omega), if_neg (by omega), if_neg (by omega), if_pos rfl, renB, ren_TC]; rfl
      · rw [x6] at hb; cases hb
        refine ⟨rfl, ?_⟩
        show (after46 st r).box.get (st.ctr + 2) = _
        rw [bxr, if_neg (by omega), if_pos rfl]; rfl
      · rw [x9] at hb; cases hb
        refine ⟨rfl, ?_⟩
        show (after46 st r).box.get (st.ctr + 3) = _
        rw [bxr, if_pos rfl]; rfl
    gone := fun i hA h => by
      rcases onceA_iff.1 hA with rfl | rfl
      · rcases h with h | h
        · cases h
        · rw [x0] at h; cases h
      · rcases h with h | h
        · cases h
        · rw [x1] at h; cases h
    kA := fun i h hk => by
      have h2 : i < 2 := h
      exact onceA_iff.2 (by omega)
    rest := fun j hj h => by
      have h1 : r ≠ j := h 1 rfl
      rw [bxr, if_neg (by omega), if_neg (by omega), if_neg (by omega), if_neg (by omega), if_neg (Ne.symm h1)]
    new := fun j x hj hb => by
      rw [bxr] at hb
      by_cases h3 : j = st.ctr + 3
      · subst h3; rw [if_pos rfl] at hb; cases hb
        exact ⟨9, _, by decide, rfl, rfl, x9, rfl⟩
      · rw [if_neg h3] at hb
        by_cases h2 : j = st.ctr + 2
        · subst h2; rw [if_pos rfl] at hb; cases hb
          exact ⟨6, _, by decide, rfl, rfl, x6, rfl⟩
        · rw [if_neg h2] at hb
          by_cases h1 : j = st.ctr + 1
          · subst h1; rw [if_pos rfl] at hb; cases hb
            exact ⟨2, _, by decide, rfl, rfl, x2, rfl⟩
          · rw [if_neg h1] at hb
            by_cases h0 : j = st.ctr
            · subst h0; rw [if_pos rfl] at hb; cases hb
              exact ⟨3, _, by decide, rfl, rfl, x3, by rw [renB, ren_TC]; rfl⟩
            · rw [if_neg h0, if_neg (by omega), fr j hj] at hb; cases hb
    ctr := by show st.ctr ≤ st.ctr + 4; omega }
  exact moved pat_mixed (fun _ _ _ _ _ _ _ hv => by cases hv) trivial pat_free hx M rfl rfl (fun i x h => by
    by_cases h0 : i = 0
    · subst h0; decide
    · by_cases h1 : i = 1
      · subst h1; decide
      · rw [gn i h0 h1] at h; cases h) base g w cargs hgl hi hrs
end Go.Vm
namespace Go.Vm
open Go Go.Proofs Go.Pa
noncomputable def patRules : List Rule := onceRule :: kSet.rule :: kBad.rule :: kAwake.rule :: kNums.map Ent.rule
theorem pat_rules : ∀ e ∈ patRules, RuleOk Tryz.prog patGl e :=
  rules_cons once_rule (rules_cons kSet_ok.rule (rules_cons kBad_ok.rule (rules_cons kAwake_ok.rule (rules_ents kNums_ok))))
noncomputable abbrev patMemo : Memo := memoOf patGl patRules
theorem rules_cases {e : Rule} (h : e ∈ patRules) : e = onceRule ∨ e = kSet.rule ∨ e = kBad.rule ∨ e = kAwake.rule ∨ (∃ n, n < 61 ∧ e = (kItoa n).rule) ∨ ∃ n, n < 61 ∧ e = (kDigits n).rule := by
  unfold patRules at h
  rcases List.mem_cons.1 h with h | h
  · exact .inl h
  rcases List.mem_cons.1 h with h | h
  · exact .inr (.inl h)
  rcases List.mem_cons.1 h with h | h
  · exact .inr (.inr (.inl h))
  rcases List.mem_cons.1 h with h | h
  · exact .inr (.inr (.inr (.inl h)))
  obtain ⟨x, hx, rfl⟩ := List.mem_map.1 h
  unfold kNums at hx
  rcases List.mem_append.1 hx with hx | hx
  · obtain ⟨n, hn, rfl⟩ := List.mem_map.1 hx
    exact .inr (.inr (.inr (.inr (.inl ⟨n, List.mem_range.1 hn, rfl⟩))))
  · obtain ⟨n, hn, rfl⟩ := List.mem_map.1 hx
    exact .inr (.inr (.inr (.inr (.inr ⟨n, List.mem_range.1 hn, rfl⟩))))
theorem mem_itoa {n : Nat} (h : n < 61) : (kItoa n).rule ∈ patRules := by
  unfold patRules kNums
  simp only [List.mem_cons, List.mem_map, List.mem_append, List.mem_range]
  exact .inr (.inr (.inr (.inr ⟨kItoa n, .inl ⟨n, h, rfl⟩, rfl⟩)))
theorem mem_digits {n : Nat} (h : n < 61) : (kDigits n).rule ∈ patRules := by
  unfold patRules kNums
  simp only [List.mem_cons, List.mem_map, List.mem_append, List.mem_range]
  exact .inr (.inr (.inr (.inr ⟨kDigits n, .inr ⟨n, h, rfl⟩, rfl⟩)))
theorem rule_run (e : Ent) (args : List V) (st : St) : e.rule.run args st = match fveqs args e.args with
  | true => some (e.v, st)
  | false => none := rfl
theorem beq_ne {a b : Nat} (h : a ≠ b) : Nat.beq a b = false := by
  cases hb : Nat.beq a b with
  | false => rfl
  | true => exact absurd (Nat.eq_of_beq_eq_true hb) h
theorem pat_ny : @NY patMemo := by
  letI : Memo := patMemo
  refine ⟨fun f h91 h89 h a st => ?_⟩
  show (mfF f patRules).run a st = none
  have ne : f ≠ 91 ∧ f ≠ 89 ∧ f ≠ 8 ∧ f ≠ 46 ∧ f ≠ 49 ∧ f ≠ 56 := by
    refine ⟨?_, ?_, ?_, ?_, ?_, ?_⟩
    · rintro rfl; cases h91
    · rintro rfl; cases h89
    · rintro rfl; cases h
    · rintro rfl; cases h
    · rintro rfl; cases h
    · rintro rfl; cases h
  refine mfF_none fun e he => .inl (beq_ne ?_)
  rcases rules_cases he with rfl | rfl | rfl | rfl | ⟨n, _, rfl⟩ | ⟨n, _, rfl⟩
  · exact Ne.symm ne.2.2.2.1
  · exact Ne.symm ne.1
  · exact Ne.symm ne.2.1
  · exact Ne.symm ne.2.2.1
  · exact Ne.symm ne.2.2.2.2.1
  · exact Ne.symm ne.2.2.2.2.2
theorem run_num {e : Ent} {n m : Nat} {v : V} {st : St} (ha : e.args = [.int .i64 (m : Int)]) (hv : m = n → e.v = v) : e.rule.run [.int .i64 (n : Int)] st = none ∨ e.rule.run [.int .i64 (n : Int)] st = some (v, st) := by
  rw [rule_run, ha, fveqs_int]
  cases hb : Nat.beq n m with
  | false => exact .inl rfl
  | true => exact .inr (by rw [hv (Nat.eq_of_beq_eq_true hb).symm])
theorem run_self {e : Ent} {n : Nat} {st : St} (ha : e.args = [.int .i64 (n : Int)]) : e.rule.run [.int .i64 (n : Int)] st = some (e.v, st) := by
  rw [rule_run, ha, fveqs_int, Nat.beq_refl]
theorem pat_nz : @NZ patMemo := by
  letI : Memo := patMemo
  refine ⟨fun n st hn => ⟨itoaS n, ?_, itoaS_ok n hn⟩, fun n st hn => ⟨S.ofList (digB n), ?_, S.toList_ofList _⟩⟩
  · show (mfF 49 patRules).run _ st = _
    refine mfF_found ⟨(kItoa n).rule, mem_itoa (by omega), rfl, run_self rfl⟩ fun e he hf => ?_
    rcases rules_cases he with rfl | rfl | rfl | rfl | ⟨m, _, rfl⟩ | ⟨m, _, rfl⟩
    · cases hf
    · cases hf
    · cases hf
    · cases hf
    · exact run_num (m := m) rfl fun h => by subst h; rfl
    · cases hf
  · show (mfF 56 patRules).run _ st = _
    refine mfF_found ⟨(kDigits n).rule, mem_digits (by omega), rfl, run_self rfl⟩ fun e he hf => ?_
    rcases rules_cases he with rfl | rfl | rfl | rfl | ⟨m, _, rfl⟩ | ⟨m, _, rfl⟩
    · cases hf
    · cases hf
    · cases hf
    · cases hf
    · cases hf
    · exact run_num (m := m) rfl fun h => by subst h; rfl
theorem pat_na : @NA patMemo := by
  letI : Memo := patMemo
  refine ⟨fun st => ?_⟩
  show (mfF 8 patRules).run [] st = _
  refine mfF_found ⟨kAwake.rule, by unfold patRules; simp, rfl, rfl⟩ fun e he hf => ?_
  rcases rules_cases he with rfl | rfl | rfl | rfl | ⟨m, _, rfl⟩ | ⟨m, _, rfl⟩
  · cases hf
  · cases hf
  · cases hf
  · exact .inr rfl
  · cases hf
  · cases hf
theorem pat_no : @NO patMemo := by
  letI : Memo := patMemo
  refine ⟨fun st r g l hb => ?_, fun st r o h => ?_⟩
  · show (mfF 46 patRules).run _ st = _
    refine mfF_none fun e he => ?_
    rcases rules_cases he with rfl | rfl | rfl | rfl | ⟨m, _, rfl⟩ | ⟨m, _, rfl⟩
    · right
      cases h : onceRule.run [.ptr r 0, g] st with
      | none => rfl
      | some p =>
        obtain ⟨r', o, ha, hr, _⟩ := once_hit h
        injection ha with h1 _
        injection h1 with h1 _
        subst h1
        have := hr.rb
        rw [hb] at this
        simp at this
    · exact .inl rfl
    · exact .inl rfl
    · exact .inl rfl
    · exact .inl rfl
    · exact .inl rfl
  · have hbx : ∀ i, (after46 st r).box.get i = if i = st.ctr + 3 then some (.cells [.int .u8 92, .int .u8 92] 5 false none) else if i = st.ctr + 2 then some (.cells [.int .u8 92, .int .u8 110] 5 false none) else if i = st.ctr + 1 then some (.cells [.str (S.ofList [10]), .str (S.ofList [92])] 9 true (some 0)) else if i = st.ctr then some (.cells (TC (st.ctr + 2) (st.ctr + 3) (st.ctr + 1)) 113 true (some 0)) else if i = r then some (.cells [.int .u32 1, .int .i32 0, .int .u32 0, .iface 114 (.ptr st.ctr 0), .nils] 78 true (some 0)) else st.box.get i := fun i => by
      simp only [after46, Tr.get_put]
    have hrl := h.rlt
    have hc : (after46 st r).ctr = st.ctr + 4 := rfl
    refine ⟨after46 st r, st.ctr, st.ctr + 1, st.ctr + 2, st.ctr + 3, ?_, ⟨?_, by omega, ⟨?_, ?_, ?_, ?_, by omega, by omega, by omega, by omega⟩⟩, by omega, fun i hi hn => ?_, by omega, by omega, by omega, by omega⟩
    · show (mfF 46 patRules).run _ st = _
      refine mfF_found ⟨onceRule, by unfold patRules; simp, rfl, once_yes h⟩ fun e he hf => ?_
      rcases rules_cases he with rfl | rfl | rfl | rfl | ⟨m, _, rfl⟩ | ⟨m, _, rfl⟩
      · exact .inr (once_yes h)
      · cases hf
      · cases hf
      · cases hf
      · cases hf
      · cases hf
    · rw [hbx, if_neg (by omega), if_neg (by omega), if_neg (by omega), if_neg (by omega), if_pos rfl]
    · rw [hbx, if_neg (by omega), if_neg (by omega), if_neg (by omega), if_pos rfl]
    · rw [hbx, if_neg (by omega), if_neg (by omega), if_pos rfl]
    · rw [hbx, if_neg (by omega), if_pos rfl]
    · rw [hbx, if_pos rfl]
    · rw [hbx, if_neg (by omega), if_neg (by omega), if_neg (by omega), if_neg (by omega), if_neg hn]
theorem pat_hits : @Hits patMemo patGl asciiL := by
  letI : Memo := patMemo
  refine ⟨asciiL_len, fun i hi => asciiL_get hi, asciiL_one, fun st => ihCall_W (W_known (v := .tup [.agg asciiL, .bool true]) ?_), fun st => ihCall_W (W_known (v := .int .i64 (-1)) ?_), fun c st hc => ?_⟩
  · show (mfF 91 patRules).run _ st = _
    refine mfF_found ⟨kSet.rule, by unfold patRules; simp, rfl, rfl⟩ fun e he hf => ?_
    rcases rules_cases he with rfl | rfl | rfl | rfl | ⟨m, _, rfl⟩ | ⟨m, _, rfl⟩
    · cases hf
    · exact .inr rfl
    · cases hf
    · cases hf
    · cases hf
    · cases hf
  · show (mfF 89 patRules).run _ st = _
    refine mfF_found ⟨kBad.rule, by unfold patRules; simp, rfl, rfl⟩ fun e he hf => ?_
    rcases rules_cases he with rfl | rfl | rfl | rfl | ⟨m, _, rfl⟩ | ⟨m, _, rfl⟩
    · cases hf
    · cases hf
    · exact .inr rfl
    · cases hf
    · cases hf
    · cases hf
  · show (mfF 89 patRules).run _ st = _
    refine mfF_none fun e he => ?_
    rcases rules_cases he with rfl | rfl | rfl | rfl | ⟨m, _, rfl⟩ | ⟨m, _, rfl⟩
    · exact .inl rfl
    · exact .inl rfl
    · right
      rw [rule_run]
      cases ha : fveqs [V.str specialS, .int .i32 (c : Int)] kBad.args with
      | false => rfl
      | true =>
        have h1 := fveqs_eq ha
        injection h1 with _ h1
        injection h1 with h1 _
        injection h1 with _ h1
        omega
    · exact .inl rfl
    · exact .inl rfl
    · exact .inl rfl
end Go.Vm
namespace Go.Vm
open Go Go.Proofs Go.RowKit Go.Pa
set_option maxRecDepth 100000
theorem list_of {α : Type} {f : α → List V} {Q : α → Prop} : ∀ {ls : List (List V)}, (∀ l ∈ ls, ∃ a, l = f a ∧ Q a) → ∃ al : List α, ls = al.map f ∧ ∀ a ∈ al, Q a
  | [], _ => ⟨[], rfl, fun a h => by simp at h⟩
  | l :: ls, h => by
    obtain ⟨a, rfl, ha⟩ := h l (by simp)
    obtain ⟨al, he, hal⟩ := list_of (ls := ls) (fun l hl => h l (List.mem_cons_of_mem _ hl))
    subst he
    exact ⟨a :: al, rfl, fun b hb => by
      rcases List.mem_cons.1 hb with rfl | hb
      · exact ha
      · exact hal b hb⟩
theorem row_of {α : Type} {f : α → List V} {Q : α → Prop} {n : Nat} {t e : TypeId} {vs : List V} (hu : Tryz.prog.underlying t = some (.slice e)) (h : Shp Tryz.prog (n + 1) t vs)
    (hp : ∀ l, Shp Tryz.prog n e l → ∃ a, l = f a ∧ Q a) : ∃ x al, vs = [x] ∧ Row f x al ∧ ∀ a ∈ al, Q a := by
  simp only [Shp, hu] at h
  rcases h with rfl | ⟨ls, rfl, _, hls⟩
  · exact ⟨.nils, [], rfl, .nils, fun a ha => by simp at ha⟩
  · obtain ⟨al, rfl, hal⟩ := list_of (f := f) (Q := Q) (fun l hl => hp l (hls l hl))
    have e3 : (al.map f).flatten = al.flatMap f := (List.flatMap_def ..).symm
    refine ⟨_, al, rfl, ?_, hal⟩
    rw [e3, List.length_map]
    exact .sl al false
theorem strs_of {n : Nat} {vs : List V} (h : Shp Tryz.prog n 23 vs) : ∃ x l, vs = [x] ∧ Row sC x l := by
  cases n with
  | zero => exact h.elim
  | succ n =>
    obtain ⟨x, l, h1, h2, _⟩ := row_of (f := sC) (Q := fun _ => True) Tryz.underlying23 h (fun l hl => by
      cases n with
      | zero => exact hl.elim
      | succ n =>
        simp only [Shp, Tryz.underlying9] at hl
        obtain ⟨s, rfl, _⟩ := hl
        exact ⟨s, rfl, trivial⟩)
    exact ⟨x, l, h1, h2⟩
theorem ints_of {n : Nat} {vs : List V} (h : Shp Tryz.prog n 36 vs) : ∃ x l, vs = [x] ∧ Row iC x l := by
  cases n with
  | zero => exact h.elim
  | succ n =>
    obtain ⟨x, l, h1, h2, _⟩ := row_of (f := iC) (Q := fun _ => True) Tryz.underlying36 h (fun l hl => by
      cases n with
      | zero => exact hl.elim
      | succ n =>
        simp only [Shp, Tryz.underlying3] at hl
        obtain ⟨s, rfl, _⟩ := hl
        exact ⟨s, rfl, trivial⟩)
    exact ⟨x, l, h1, h2⟩
theorem u8_of {i : Int} (h : (Lit.int .u8 i).wf = true) : ∃ k : Nat, i = (k : Int) ∧ k < 256 := by
  have h2 : 0 ≤ i ∧ i < 256 := by
    simp only [Lit.wf, Bool.and_eq_true, decide_eq_true_eq] at h
    have e1 : IntKind.u8.min = 0 := by decide
    have e2 : IntKind.u8.max = 255 := by decide
    omega
  exact ⟨i.toNat, by omega, by omega⟩
theorem fact_of {n : Nat} {vs : List V} (h : Shp Tryz.prog n 38 vs) : ∃ f : Fw, vs = f.cells ∧ f.ok := by
  cases n with
  | zero => exact h.elim
  | succ n =>
    simp only [Shp, Tryz.underlying38] at h
    obtain ⟨ls, rfl, hlen, hf⟩ := h
    match ls, hlen, hf with
    | [l0, l1, l2, l3, l4, l5], _, hf =>
      have h0 := hf 0 _ l0 rfl rfl
      have h1 := hf 1 _ l1 rfl rfl
      have h2 := hf 2 _ l2 rfl rfl
      have h3 := hf 3 _ l3 rfl rfl
      have h4 := hf 4 _ l4 rfl rfl
      have h5 := hf 5 _ l5 rfl rfl
      obtain ⟨nv, names, rfl, hn⟩ := strs_of h2
      obtain ⟨kv, kids, rfl, hk⟩ := ints_of h3
      cases n with
      | zero => exact h0.elim
      | succ n =>
        simp only [Shp] at h0 h1 h4 h5
        obtain ⟨b, rfl⟩ := h0
        obtain ⟨i, rfl, hi⟩ := h1
        obtain ⟨r, rfl, _⟩ := h4
        obtain ⟨q, rfl, _⟩ := h5
        obtain ⟨k, rfl, hk2⟩ := u8_of hi
        exact ⟨⟨b, k, nv, names, kv, kids, r, q⟩, rfl, ⟨hk2, hn, hk⟩⟩
theorem facts_of {n : Nat} {vs : List V} (h : Shp Tryz.prog n 22 vs) : ∃ x l, vs = [x] ∧ Row Fw.cells x l ∧ ∀ f ∈ l, Fw.ok f := by
  cases n with
  | zero => exact h.elim
  | succ n => exact row_of (f := Fw.cells) (Q := Fw.ok) Tryz.underlying22 h (fun l hl => fact_of hl)
abbrev pTs : List TypeId := [22, 38, 4, 5, 23, 9, 36, 3]
theorem pts_ok : okT Tryz.prog pTs = true := by kernel_rfl
end Go.Vm
