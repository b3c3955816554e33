/- Does a word assign? Does a word assign, by the document? Words and commands as they are handed in; whether all words may be. Whether all words may be, by the program. Simple commands that may be, by the program. -/
import Derived.Test.YtebpfgkajjljjaaSy3
namespace Go.Vm
open Go Go.Proofs Go.Sy
attribute [local simp] Oks xOps vwanted isDefer vop kindOf vpure ev evs toV andThen inBlock atTo_some Fr.dsTo Fr.glTo Fr.toNone initFr_at initFr_ds initFr_gl veff traverse tupled vresult V.undef evOpt xDraw xStep

/-- a name, =, and whatever behind -/
def eqName (t : List UInt8) : Bool := t.elem 61 && nameL (t.takeWhile (· ≠ 61))
def headBad : List Wp → Bool
  | [] => true
  | p :: _ => p.v || p.q
def headV : List Wp → Bool
  | [] => true
  | p :: _ => p.v
def asgOk : List Wp → Bool
  | [] => false
  | p :: _ => !p.v && !p.q && eqName p.t.toList
def AsgR (ok : Bool) (v : V) : Prop := ∃ s y b, v = .tup [.str s, .agg [y, .int .i64 b], .bool ok] ∧ oneC y = true

/-- the frame in front of the cut -/
def AFr (gl : Gl) (id1 : Nat) (fr : Fr) : Prop := fr.ds = [] ∧ fr.gl = gl ∧ Fr.at fr 1 = .ptr id1 0 ∧ Fr.at fr 3 = .ptr (id1 + 1) 0
def AQ (gl : Gl) (id1 : Nat) (st1 : St) (k : Nat) (b : Bool) (e : AE) (fr : Fr) (st' : St) : Prop := e = AE.normal ∧ AtSt st1 st' ∧ AFr gl id1 fr ∧ Fr.at fr k = .bool b

theorem bld31e : vbuild Try.prog 31 [] = some (.agg [.nils, .int .i64 0]) := by kernel_rfl
theorem eqName_cut {s : S} {v : V} (h : CutS s (S.ofList [61]) v) : ∃ a b ok, v = .tup [.str a, .str b, .bool ok] ∧ a.n ≤ s.n ∧ eqName s.toList = (ok && nameL a.toList) := by
  obtain ⟨a, b, ok, rfl, h⟩ := h
  have h61 : ((S.ofList [61]).at 0).toUInt8 = 61 := by decide
  rw [h61] at h
  rcases h with ⟨rfl, ha, hs⟩ | ⟨rfl, hs, hle⟩
  · refine ⟨a, b, true, rfl, ?_, ?_⟩
    · have := congrArg List.length hs
      simp at this; omega
    · unfold eqName
      rw [← ha, show s.toList.elem 61 = true from by rw [List.elem_eq_mem, hs]; simp]
  · refine ⟨a, b, false, rfl, hle, ?_⟩
    unfold eqName
    rw [show s.toList.elem 61 = false from by rw [List.elem_eq_mem, decide_eq_false hs]]
    rfl

def YQ (gl : Gl) (id1 : Nat) (s1 : S) (st6 : St) (e : AE) (fr : Fr) (st' : St) : Prop := e = AE.normal ∧ AtSt st6 st' ∧ AFr gl id1 fr ∧ Fr.at fr 5 = .str s1 ∧ ∃ y l', Fr.at fr 8 = y ∧ Vp st' y l'
theorem bld31' {st : St} {z : V} {l : List Wp} (h : Vp st z l) (a : Int) : vbuild Try.prog 31 [(0, z), (1, .int .i64 a)] = some (.agg [z, .int .i64 a]) := by
  cases h <;> kernel_rfl
theorem sa3 : isAggT Try.prog 3 = some false := by kernel_rfl
theorem sz3 : sizeT Try.prog 3 = some 1 := by kernel_rfl

variable [Memo] [NY]

set_option maxHeartbeats 1000000 in
theorem wAssign_ok (gl : Gl) (st : St) (w : V) (l : List Wp) (hx : Wv st w l) (hl : l.length < 1000000) (hs : ∀ p ∈ l, p.t.n < 4000000000000000000) :
    ∃ v st', W Try.prog (.call gl 27 [w]) st = .call (.val v st') ∧ AsgR (asgOk l) v ∧ Keep st st' := by
  obtain ⟨x, a, rfl, hx⟩ := hx
  have hk39 : callable Try.prog 39 = true := by kernel_rfl
  have hk40 : callable Try.prog 40 = true := by kernel_rfl
  have hk41 : callable Try.prog 41 = true := by kernel_rfl
  have ox := hx.one
  have oi : ∀ k n, oneC (.int k n) = true := fun _ _ => rfl
  have lx := hx.len
  have on : oneC .nils = true := rfl
  refine call_ex (NY.no _ rfl rfl _ _) Try.func27 rfl (by kernel_rfl) ?_
  repeat refine Does.seq ?_
  refine Does.region ?_
  refine Oks.cont (Q := fun fr st' => st' = newWord2 st x a ∧ AFr gl st.ctr fr) ?r0 ?rest
  case r0 =>
    simp [valloc, V.cells, ox, oi, mkRef, zs31, on]
    exact ⟨rfl, by simp, by simp, by simp, by simp⟩
  case rest =>
  have hk1 : Keep st (newWord2 st x a) := ((Keep.refl st).new _).new _
  have b3 : (newWord2 st x a).box.get st.ctr = some (.cells [x, .int .i64 a] 31 true (some 0)) := by unfold newWord2; rw [Tr.get_put, if_neg (by omega), Tr.get_put, if_pos rfl]
  have b4 : (newWord2 st x a).box.get (st.ctr + 1) = some (.cells [.nils, .int .i64 0] 31 true (some 0)) := by unfold newWord2; rw [Tr.get_put, if_pos rfl]
  have hct : st.ctr + 1 < (newWord2 st x a).ctr := Nat.lt_succ_self _
  revert hk1 b3 b4 hct
  generalize newWord2 st x a = st1
  have hcs : st.ctr ≤ st.ctr := Nat.le_refl _
  generalize hid : st.ctr = id1
  intro hk1 b3 b4 hct
  rintro fr st' ⟨hst', hds, hg, h1, h3⟩
  rw [hst']
  clear hst'
  have f1 := wf0 id1
  have hx1 := hx.keep hk1
  have l1 := vload_of (P := Try.prog) (off := 0) sa29 sz29 b3 rfl
  simp only [andThen]
  repeat refine Does.seq ?_
  refine Does.mono (Q := AQ gl id1 st1 26 (headBad l)) ?r1 ?t1
  case r1 => as_aux_lemma =>
    refine Does.region ?_
    refine Oks.cont (Q := fun fr st' => AtSt st1 st' ∧ AFr gl id1 fr ∧ Fr.at fr 26 = .bool (headBad l)) ?_ (fun fr st' h => ⟨rfl, h.1, h.2⟩)
    have e0 : ∀ kk, vbin Try.prog kk .eql 3 (.int .i64 (l.length : Int)) (.int .i64 0) = some (.bool (decide (l.length = 0))) := fun kk => vI_eql rfl
    refine Oks.cut 12 (fun fr st' => AtSt st1 st' ∧ AFr gl id1 fr ∧ Fr.at fr 20 = .bool (headV l)) ?c1 ?c2
    case c1 => as_aux_lemma =>
      simp only [List.take, List.take_succ_cons]
      cases l with
      | nil =>
        have e1 : ∀ kk, vbin Try.prog kk .eql 3 (.int .i64 0) (.int .i64 0) = some (.bool true) := e0
        have lx' : vlen Try.prog 29 x = some (.int .i64 0) := lx
        simp [h1, f1, l1, lx', e1, headV]
        exact ⟨rfl, by simp [hds], by simp [hg], by simp [h1], by simp [h3]⟩
      | cons p r =>
        rw [decide_eq_false (by simp)] at e0
        obtain ⟨pa, g3, g4⟩ := hx1.get (show 0 < (p :: r).length by simp)
        rw [show (p :: r).getD 0 default = p from rfl] at g4
        obtain ⟨_, ⟨p0, m0, n0⟩, ⟨p1, m1, n1⟩, ⟨p2, m2, n2⟩⟩ := g4.loads
        have i3 : vindexAddr Try.prog 29 x (.int .i64 0) = some pa := g3 .i64
        generalize (p :: r).length = ln at e0 lx
        simp [h1, f1, l1, lx, e0, i3, m0, n0, headV]
        exact ⟨rfl, by simp [hds], by simp [hg], by simp [h1], by simp [h3]⟩
    case c2 => as_aux_lemma =>
      clear hds hg h1 h3
      rintro fr st' ⟨hst', ⟨hds, hg, h1, h3⟩, h20⟩
      rw [show st' = st1 from hst']
      clear hst'
      simp only [List.drop, List.drop_succ_cons]
      cases l with
      | nil =>
        simp only [headV] at h20
        simp [h20, headBad]
        exact ⟨rfl, by simp [hds], by simp [hg], by simp [h1], by simp [h3]⟩
      | cons p r =>
        obtain ⟨pa, g3, g4⟩ := hx1.get (show 0 < (p :: r).length by simp)
        rw [show (p :: r).getD 0 default = p from rfl] at g4
        obtain ⟨_, ⟨p0, m0, n0⟩, ⟨p1, m1, n1⟩, ⟨p2, m2, n2⟩⟩ := g4.loads
        have i3 : vindexAddr Try.prog 29 x (.int .i64 0) = some pa := g3 .i64
        simp only [headBad, headV] at h20 ⊢
        generalize p.v = vv at h20
        cases vv with
        | true => simp [h20]; exact ⟨rfl, by simp [hds], by simp [hg], by simp [h1], by simp [h3]⟩
        | false => simp [h20, h1, f1, l1, i3, m2, n2]; exact ⟨rfl, by simp [hds], by simp [hg], by simp [h1], by simp [h3]⟩
  case t1 => as_aux_lemma =>
  clear hds hg h1 h3
  rintro e fr st' ⟨rfl, hst', ⟨hds, hg, h1, h3⟩, h26⟩
  rw [show st' = st1 from hst']
  clear hst'
  simp only [andThen]
  repeat refine Does.seq ?_
  cases hhb : headBad l with
  | true =>
    have hno : asgOk l = false := by
      cases l with
      | nil => rfl
      | cons p r =>
        simp only [headBad] at hhb
        simp only [asgOk]
        cases hv : p.v <;> cases hq : p.q <;> simp_all
    rw [hno]
    rw [hhb] at h26
    refine Does.condT (by simp [h26]) ?_
    repeat refine Does.seq ?_
    refine Does.region ?_
    have hs4 := store_all (P := Try.prog) (l := [.nils, .int .i64 0]) z31 b4 rfl rfl (by simp [on, oi])
    have hld := vload31 (st := { st1 with box := st1.box.put (id1 + 1) (.cells [.nils, .int .i64 0] 31 true (some 0)) }) (id := id1 + 1) (x := .nils) (a := 0) (e := 31) (fl := true) (fz := some 0) (by rw [Tr.get_put, if_pos rfl])
    have hk6 : Keep st { st1 with box := st1.box.put (id1 + 1) (.cells [.nils, .int .i64 0] 31 true (some 0)) } := Keep.put hk1 (by omega) _
    simp [h3, evParts, bld31e, vact, hs4]
    refine Does.ret ?_
    simp [hds, h3, hld]
    exact ⟨⟨_, _, _, rfl, rfl⟩, hk6⟩
  | false =>
    rw [hhb] at h26
    refine Does.condF (by simp [h26]) ?_
    refine Does.skip ?_
    simp only [andThen]
    cases l with
    | nil => cases hhb
    | cons p r =>
    have hok : asgOk (p :: r) = eqName p.t.toList := by
      simp only [headBad] at hhb
      simp only [asgOk]
      cases hv : p.v <;> cases hq : p.q <;> simp_all
    rw [hok]
    obtain ⟨pa, g3, g4⟩ := hx1.get (show 0 < (p :: r).length by simp)
    rw [show (p :: r).getD 0 default = p from rfl] at g4
    obtain ⟨_, _, ⟨p1, m1, n1⟩, _⟩ := g4.loads
    have i3 : vindexAddr Try.prog 29 x (.int .i64 0) = some pa := g3 .i64
    obtain ⟨v, st2, hc, hcut, hk2⟩ := strCut1 gl st1 p.t (S.ofList [61]) rfl (hs p (by simp))
    have hc := ihCall_W hc
    obtain ⟨s1, s2, ok, rfl, hsn, heq⟩ := eqName_cut hcut
    rw [heq]
    have hpn := hs p (by simp)
    clear heq hok
    repeat refine Does.seq ?_
    refine Does.region ?_
    refine Oks.cont (Q := fun fr st' => AtSt st2 st' ∧ AFr gl id1 fr ∧ Fr.at fr 5 = .str s1 ∧ Fr.at fr 6 = .str s2 ∧ Fr.at fr 7 = .bool ok) ?r3 ?t3
    case r3 => as_aux_lemma =>
      simp [h1, f1, l1, i3, m1, n1, hg, vcall_callable hk39, hc]
      exact ⟨rfl, by simp [hds], by simp [hg], by simp [h1], by simp [h3]⟩
    case t3 => as_aux_lemma =>
    clear hds hg h1 h3 h26
    rintro fr st' ⟨hst', ⟨hds, hg, h1, h3⟩, h5, h6, h7⟩
    rw [show st' = st2 from hst']
    clear hst'
    simp only [andThen]
    repeat refine Does.seq ?_
    refine Does.region ?_
    obtain ⟨v4, st4, hc4, ⟨n, rfl, hn, hlead⟩, rfl⟩ := lead_ok gl st2 s1 (by omega)
    have hc4 := ihCall_W hc4
    have vl9 : vlen Try.prog 9 (.str s1) = some (.int .i64 ((s1.n : Nat) : Int)) := vlen_str rfl
    have hemp := same_empty s1
    have hnl : nameL s1.toList = (!decide (s1.n = 0) && decide (n = s1.n)) := by
      by_cases h0 : s1.n = 0
      · rw [nameL_empty h0]; simp [h0]
      · rw [← hlead (by omega)]; simp [h0]
    rw [hnl]
    have ene : ∀ kk, vbin Try.prog kk .neq 3 (.int .i64 (n : Int)) (.int .i64 (s1.n : Int)) = some (.bool (!decide (n = s1.n))) := fun kk => vI_neq rfl
    generalize decide (s1.n = 0) = bz at hemp
    generalize decide (n = s1.n) = bn at ene
    refine Oks.cont (Q := fun fr st' => AtSt st4 st' ∧ AFr gl id1 fr ∧ Fr.at fr 6 = .str s2 ∧ Fr.at fr 5 = .str s1 ∧ Fr.at fr 50 = .bool (!(ok && (!bz && bn)))) ?r4 ?t4
    case r4 => as_aux_lemma =>
      cases ok with
      | false => simp [h5, h6, h7, hg]; exact ⟨rfl, by simp [hds], by simp [hg], by simp [h1], by simp [h3]⟩
      | true =>
        cases bz with
        | true => simp [h5, h6, h7, hg, vbin_seql, hemp]; exact ⟨rfl, by simp [hds], by simp [hg], by simp [h1], by simp [h3]⟩
        | false =>
          simp [h5, h6, h7, hg, vbin_seql, hemp, vcall_callable hk40, hc4, vl9, ene]; exact ⟨rfl, by simp [hds], by simp [hg], by simp [h1], by simp [h3]⟩
    case t4 => as_aux_lemma =>
    clear hds hg h1 h3 h5 h6 h7
    rintro fr st' ⟨hst', ⟨hds, hg, h1, h3⟩, h6, h5, h50⟩
    rw [show st' = st4 from hst']
    clear hst' hemp ene hnl hlead
    have hkk := hk1.trans hk2
    have b4' : st4.box.get (id1 + 1) = some (.cells [.nils, .int .i64 0] 31 true (some 0)) := by rw [hk2.box _ hct]; exact b4
    have b3' : st4.box.get id1 = some (.cells [x, .int .i64 a] 31 true (some 0)) := by rw [hk2.box _ (by omega)]; exact b3
    simp only [andThen]
    repeat refine Does.seq ?_
    generalize (ok && (!bz && bn)) = yes at h50
    cases yes with
    | false =>
      refine Does.condT (by simp [h50]) ?_
      repeat refine Does.seq ?_
      refine Does.region ?_
      have hs4 := store_all (P := Try.prog) (l := [.nils, .int .i64 0]) z31 b4' rfl rfl (by simp [on, oi])
      have hld := vload31 (st := { st4 with box := st4.box.put (id1 + 1) (.cells [.nils, .int .i64 0] 31 true (some 0)) }) (id := id1 + 1) (x := .nils) (a := 0) (e := 31) (fl := true) (fz := some 0) (by rw [Tr.get_put, if_pos rfl])
      have hk6 : Keep st { st4 with box := st4.box.put (id1 + 1) (.cells [.nils, .int .i64 0] 31 true (some 0)) } := Keep.put hkk (by omega) _
      simp [h3, evParts, bld31e, vact, hs4]
      refine Does.ret ?_
      simp [hds, h3, hld]
      exact ⟨⟨_, _, _, rfl, rfl⟩, hk6⟩
    | true =>
      refine Does.condF (by simp [h50]) ?_
      refine Does.skip ?_
      simp only [andThen]
      repeat refine Does.seq ?_
      refine Does.region ?_
      have l4 := vload_of (P := Try.prog) (off := 0) sa29 sz29 b3' rfl
      have hx4 := hx1.keep hk2
      obtain ⟨v5, st5, hc5, ho5, hk5⟩ := clone_ok gl st4 x (p :: r) hx4 hl
      have hc5 := ihCall_W hc5
      refine Oks.cont (Q := fun fr st' => AtSt st5 st' ∧ AFr gl id1 fr ∧ Fr.at fr 6 = .str s2 ∧ Fr.at fr 5 = .str s1 ∧ Fr.at fr 8 = v5) ?r6 ?t6
      case r6 => as_aux_lemma =>
        simp [h1, h5, h6, f1, l4, hg, vcall_callable hk41, hc5]; exact ⟨rfl, by simp [hds], by simp [hg], by simp [h1], by simp [h3]⟩
      case t6 => as_aux_lemma =>
      clear hds hg h1 h3 h5 h6 h50
      rintro fr st' ⟨hst', ⟨hds, hg, h1, h3⟩, h6, h5, h8⟩
      rw [show st' = st5 from hst']
      clear hst'
      simp only [andThen]
      rcases ho5.at' with ⟨_, h⟩ | ⟨id, cap, fl, rfl, hb, hbid, hidl, hcap⟩
      · cases h
      repeat refine Does.seq ?_
      refine Does.region ?_
      have hia := vindexAddr_ms (P := Try.prog) (t := 29) (e := 33) (id := id) (off := 0) (n := (p :: r).length) (z := 3) (i := 0) (cap := cap) (k := .i64) Try.underlying29 z33 (by simp)
      rw [show ((0 : Nat) : Int) = 0 from rfl, show 0 + 0 * 3 = 0 from rfl] at hia
      have hpg := pg1 id 0
      rw [show 0 + 1 = 1 from rfl] at hpg
      have hst := vstore_one (P := Try.prog) (st := st5) (t := 9) (off := 1) (v := .str s2) sz9 hb (by rw [ptsV_len]; simp; omega) rfl
      rw [show (ptsV (p :: r)).set 1 (.str s2) = ptsV (⟨p.v, s2, p.q⟩ :: r) from rfl] at hst
      have ho6 : OwnP st4.ctr { st5 with box := st5.box.put id (.cells (ptsV (⟨p.v, s2, p.q⟩ :: r)) 33 fl (some 0)) } (.ms id 0 (p :: r).length 3 cap) (⟨p.v, s2, p.q⟩ :: r) :=
        ⟨.inr ⟨id, cap, fl, rfl, by rw [Tr.get_put, if_pos rfl], hbid, hidl, hcap⟩⟩
      have hk6 : Keep st4 { st5 with box := st5.box.put id (.cells (ptsV (⟨p.v, s2, p.q⟩ :: r)) 33 fl (some 0)) } := Keep.put hk5 hbid _
      have hv6 := ho6.vp
      refine Oks.cont (Q := fun fr st' => st' = { st5 with box := st5.box.put id (.cells (ptsV (⟨p.v, s2, p.q⟩ :: r)) 33 fl (some 0)) } ∧ AFr gl id1 fr ∧ Fr.at fr 6 = .str s2 ∧ Fr.at fr 5 = .str s1 ∧ Fr.at fr 8 = .ms id 0 (p :: r).length 3 cap) ?r7 ?t7
      case r7 => as_aux_lemma =>
        generalize (p :: r).length = ln at h8 hia
        simp [h6, h8, hia, hpg, vact, hst, h5]
        exact ⟨by simp [hds], by simp [hg], by simp [h1], by simp [h3]⟩
      case t7 => as_aux_lemma =>
      clear hds hg h1 h3 h5 h6 h8
      rintro fr st' ⟨hst', ⟨hds, hg, h1, h3⟩, h6, h5, h8⟩
      rw [hst']
      clear hst'
      revert hk6 hv6
      generalize ({ st5 with box := st5.box.put id (.cells (ptsV (⟨p.v, s2, p.q⟩ :: r)) 33 fl (some 0)) } : St) = st6
      intro hk6 hv6
      simp only [andThen]
      repeat refine Does.seq ?_
      refine Does.region ?_
      have hem := str_empty s2
      generalize s2.toList.isEmpty = em at hem
      generalize hy0 : V.ms id 0 (p :: r).length 3 cap = y0 at h8 hv6
      obtain ⟨y1, hy1, hy2⟩ := hv6.tail (lo := 1) (k := .i64) (by simp)
      rw [show ((1 : Nat) : Int) = 1 from rfl] at hy1
      refine Oks.cont (Q := fun fr st' => AtSt st6 st' ∧ AFr gl id1 fr ∧ Fr.at fr 8 = y0 ∧ Fr.at fr 5 = .str s1 ∧ Fr.at fr 60 = .bool em) ?r8 ?t8
      case r8 => as_aux_lemma =>
        simp [h6, h5, h8, vbin_seql, hem]; exact ⟨rfl, by simp [hds], by simp [hg], by simp [h1], by simp [h3]⟩
      case t8 => as_aux_lemma =>
      clear hds hg h1 h3 h5 h6 h8
      rintro fr st' ⟨hst', ⟨hds, hg, h1, h3⟩, h8, h5, h60⟩
      rw [show st' = st6 from hst']
      clear hst'
      simp only [andThen]
      repeat refine Does.seq ?_
      refine Does.mono (Q := YQ gl id1 s1 st6) ?c9 ?t9
      case c9 => as_aux_lemma =>
        cases em with
        | true =>
          refine Does.condT (by simp [h60]) ?_
          refine Does.region ?_
          simp [h8, hy1]
          exact ⟨rfl, rfl, ⟨by simp [hds], by simp [hg], by simp [h1], by simp [h3]⟩, by simp [h5], _, _, by simp, hy2⟩
        | false =>
          refine Does.condF (by simp [h60]) ?_
          refine Does.skip ?_
          exact ⟨rfl, rfl, ⟨by simp [hds], by simp [hg], by simp [h1], by simp [h3]⟩, by simp [h5], _, _, h8, hv6⟩
      case t9 => as_aux_lemma =>
      clear hds hg h1 h3 h5 h8 h60
      rintro e fr st' ⟨rfl, hst', ⟨hds, hg, h1, h3⟩, h5, y, l', h8, hy⟩
      rw [show st' = st6 from hst']
      clear hst'
      simp only [andThen]
      repeat refine Does.seq ?_
      refine Does.draw (b := [0, 0, 0, 4, 14, 1, 63, 127]) (l := [0, 1, 2, 3, 4, 5, 6, 7]) (by kernel_rfl) (by kernel_rfl) (by kernel_rfl) ?_
      have hk7 : Keep st { st6 with ctr := st6.ctr + 8 } := (hkk.trans hk6).tick 8
      have b3'' : st6.box.get id1 = some (.cells [x, .int .i64 a] 31 true (some 0)) := by rw [hk6.box _ (by have := hk2.ctr; omega)]; exact b3'
      have b4'' : st6.box.get (id1 + 1) = some (.cells [.nils, .int .i64 0] 31 true (some 0)) := by rw [hk6.box _ (by have := hk2.ctr; omega)]; exact b4'
      have la := vload_of (P := Try.prog) (st := { ctr := st6.ctr + 8, box := st6.box }) (off := 1) sa3 sz3 b3'' rfl
      have f2 := wf1 id1
      have oy := hy.one
      have hbl := bld31' hy a
      have hs4 := store_all (P := Try.prog) (st := { ctr := st6.ctr + 8, box := st6.box }) (l := [y, .int .i64 a]) z31 b4'' rfl rfl (by simp [oy, oi])
      have hld := vload31 (st := { ctr := st6.ctr + 8, box := st6.box.put (id1 + 1) (.cells [y, .int .i64 a] 31 true (some 0)) }) (id := id1 + 1) (x := y) (a := a) (e := 31) (fl := true) (fz := some 0) (by rw [Tr.get_put, if_pos rfl])
      have hk8 : Keep st { ctr := st6.ctr + 8, box := st6.box.put (id1 + 1) (.cells [y, .int .i64 a] 31 true (some 0)) } := Keep.put hk7 (by omega) _
      simp [sameIn, h1, h3, h5, h8, f2, la, evParts, hbl, vact, hs4, veq_int]
      refine Does.ret ?_
      simp [hds, h3, hld]
      exact ⟨⟨_, _, _, rfl, oy⟩, hk8⟩
end Go.Vm

namespace Go.Vm
open Go Go.Proofs Go.Sy
attribute [local simp] Oks xOps vwanted isDefer vop kindOf vpure ev evs toV andThen inBlock atTo_some Fr.dsTo Fr.glTo Fr.toNone initFr_at initFr_ds initFr_gl veff traverse tupled vresult V.undef evOpt xDraw xStep

theorem takeWhile_ne : ∀ (l : List UInt8) (x : UInt8), x ∈ l.takeWhile (· ≠ 61) → x ≠ 61
  | [], x, h => by simp at h
  | b :: r, x, h => by
    by_cases hb : b = 61
    · subst hb; simp at h
    · rw [List.takeWhile_cons_of_pos (by simpa using hb)] at h
      rcases List.mem_cons.1 h with h | h
      · rw [h]; exact hb
      · exact takeWhile_ne r x h

theorem tw_facts (s : S) : ∃ k, k = (s.toList.takeWhile (· ≠ 61)).length ∧ k ≤ s.n ∧ (∀ i, i < k → ¬ s.at i = 61) ∧ (k < s.n → s.at k = 61) ∧ eqName s.toList = (decide (k < s.n) && nameL (s.cut 0 k).toList) := by
  refine ⟨_, rfl, ?_⟩
  have hpre : s.toList.takeWhile (· ≠ 61) = s.toList.take (s.toList.takeWhile (· ≠ 61)).length := List.prefix_iff_eq_take.1 (List.takeWhile_prefix _)
  have hlen : (s.toList.takeWhile (· ≠ 61)).length ≤ s.n := by
    have := (List.takeWhile_prefix (l := s.toList) (p := (· ≠ 61))).length_le
    rwa [S.len] at this
  have hcut : (s.cut 0 (s.toList.takeWhile (· ≠ 61)).length).toList = s.toList.takeWhile (· ≠ 61) := by
    rw [S.toList_cut s (Nat.zero_le _) hlen, List.drop_zero, Nat.sub_zero]
    exact hpre.symm
  have hnot : ∀ i, i < (s.toList.takeWhile (· ≠ 61)).length → ¬ s.at i = 61 := fun i hi h => by
    have h1 : (s.toList.takeWhile (· ≠ 61))[i]? = some (UInt8.ofNat (s.at i)) := by
      rw [hpre, List.getElem?_take, if_pos hi]
      exact s.toList_at (by omega)
    have h2 : UInt8.ofNat (s.at i) ∈ s.toList.takeWhile (· ≠ 61) := List.mem_of_getElem? h1
    have h3 := takeWhile_ne _ _ h2
    rw [h] at h3
    exact absurd rfl h3
  refine ⟨hlen, hnot, ?_, ?_⟩
  · intro hk
    have hm : (61 : UInt8) ∈ s.toList := by
      refine Classical.byContradiction fun hn => ?_
      rw [takeWhile_all (l := s.toList) (p := fun x => decide (x ≠ 61)) (fun x hx => decide_eq_true (fun h : x = 61 => hn (by rw [← h]; exact hx))), S.len] at hk
      omega
    have hd := takeWhile_mem hm
    have h1 := s.toList_at hk
    rw [hd] at h1
    rw [List.getElem?_append_right (by rw [← hd]; exact Nat.le_refl _)] at h1
    rw [← hd, Nat.sub_self, List.getElem?_cons_zero] at h1
    exact (byte_eq (s.at_lt _) (by decide)).1 (Option.some.inj h1).symm
  · unfold eqName
    rw [hcut]
    congr 1
    rw [List.elem_eq_mem, Bool.eq_iff_iff, decide_eq_true_iff, decide_eq_true_iff]
    constructor
    · intro hm
      have := congrArg List.length (takeWhile_mem hm)
      simp only [List.length_append, List.length_cons, S.len] at this
      omega
    · intro hk
      refine Classical.byContradiction fun hn => ?_
      rw [takeWhile_all (l := s.toList) (p := fun x => decide (x ≠ 61)) (fun x hx => decide_eq_true (fun h : x = 61 => hn (by rw [← h]; exact hx))), S.len] at hk
      omega

def ZQ (gl : Gl) (id1 : Nat) (t : S) (k : Nat) (st1 : St) (e : AE) (fr : Fr) (st' : St) : Prop := e = AE.normal ∧ AFr gl id1 fr ∧ Fr.at fr 5 = .str t ∧ Fr.at fr 6 = .int .i64 (k : Int) ∧ Keep st1 st' ∧ st1.ctr ≤ st'.ctr ∧ ∃ z l5, Fr.at fr 7 = z ∧ OwnP st1.ctr st' z l5 ∧ l5.length ≤ 1

variable [Memo] [NY]

set_option maxHeartbeats 1000000 in
theorem rAssign_ok (gl : Gl) (st : St) (w : V) (l : List Wp) (hx : Wv st w l) (hl : l.length < 1000000) (hs : ∀ p ∈ l, p.t.n < 4000000000000000000) :
    ∃ v st', W Try.prog (.call gl 33 [w]) st = .call (.val v st') ∧ AsgR (asgOk l) v ∧ Keep st st' := by
  obtain ⟨x, a, rfl, hx⟩ := hx
  have hk44 : callable Try.prog 44 = true := by kernel_rfl
  have ox := hx.one
  have oi : ∀ k n, oneC (.int k n) = true := fun _ _ => rfl
  have lx := hx.len
  have on : oneC .nils = true := rfl
  refine call_ex (NY.no _ rfl rfl _ _) Try.func33 rfl (by kernel_rfl) ?_
  repeat refine Does.seq ?_
  refine Does.region ?_
  refine Oks.cont (Q := fun fr st' => st' = newWord2 st x a ∧ AFr gl st.ctr fr) ?r0 ?rest
  case r0 =>
    simp [valloc, V.cells, ox, oi, mkRef, zs31, on]
    exact ⟨rfl, by simp, by simp, by simp, by simp⟩
  case rest =>
  have hk1 : Keep st (newWord2 st x a) := ((Keep.refl st).new _).new _
  have b3 : (newWord2 st x a).box.get st.ctr = some (.cells [x, .int .i64 a] 31 true (some 0)) := by unfold newWord2; rw [Tr.get_put, if_neg (by omega), Tr.get_put, if_pos rfl]
  have b4 : (newWord2 st x a).box.get (st.ctr + 1) = some (.cells [.nils, .int .i64 0] 31 true (some 0)) := by unfold newWord2; rw [Tr.get_put, if_pos rfl]
  have hct : st.ctr + 1 < (newWord2 st x a).ctr := Nat.lt_succ_self _
  revert hk1 b3 b4 hct
  generalize newWord2 st x a = st1
  have hcs : st.ctr ≤ st.ctr := Nat.le_refl _
  generalize hid : st.ctr = id1
  intro hk1 b3 b4 hct
  rintro fr st' ⟨hst', hds, hg, h1, h3⟩
  rw [hst']
  clear hst'
  have f1 := wf0 id1
  have hx1 := hx.keep hk1
  have l1 := vload_of (P := Try.prog) (off := 0) sa29 sz29 b3 rfl
  simp only [andThen]
  repeat refine Does.seq ?_
  refine Does.mono (Q := AQ gl id1 st1 25 (headBad l)) ?r1 ?t1
  case r1 => as_aux_lemma =>
    refine Does.region ?_
    refine Oks.cont (Q := fun fr st' => AtSt st1 st' ∧ AFr gl id1 fr ∧ Fr.at fr 25 = .bool (headBad l)) ?_ (fun fr st' h => ⟨rfl, h.1, h.2⟩)
    have e0 : ∀ kk, vbin Try.prog kk .eql 3 (.int .i64 (l.length : Int)) (.int .i64 0) = some (.bool (decide (l.length = 0))) := fun kk => vI_eql rfl
    refine Oks.cut 12 (fun fr st' => AtSt st1 st' ∧ AFr gl id1 fr ∧ Fr.at fr 19 = .bool (headV l)) ?c1 ?c2
    case c1 => as_aux_lemma =>
      simp only [List.take, List.take_succ_cons]
      cases l with
      | nil =>
        have e1 : ∀ kk, vbin Try.prog kk .eql 3 (.int .i64 0) (.int .i64 0) = some (.bool true) := e0
        have lx' : vlen Try.prog 29 x = some (.int .i64 0) := lx
        simp [h1, f1, l1, lx', e1, headV]
        exact ⟨rfl, by simp [hds], by simp [hg], by simp [h1], by simp [h3]⟩
      | cons p r =>
        rw [decide_eq_false (by simp)] at e0
        obtain ⟨pa, g3, g4⟩ := hx1.get (show 0 < (p :: r).length by simp)
        rw [show (p :: r).getD 0 default = p from rfl] at g4
        obtain ⟨_, ⟨p0, m0, n0⟩, ⟨p1, m1, n1⟩, ⟨p2, m2, n2⟩⟩ := g4.loads
        have i3 : vindexAddr Try.prog 29 x (.int .i64 0) = some pa := g3 .i64
        generalize (p :: r).length = ln at e0 lx
        simp [h1, f1, l1, lx, e0, i3, m0, n0, headV]
        exact ⟨rfl, by simp [hds], by simp [hg], by simp [h1], by simp [h3]⟩
    case c2 => as_aux_lemma =>
      clear hds hg h1 h3
      rintro fr st' ⟨hst', ⟨hds, hg, h1, h3⟩, h19⟩
      rw [show st' = st1 from hst']
      clear hst'
      simp only [List.drop, List.drop_succ_cons]
      cases l with
      | nil =>
        simp only [headV] at h19
        simp [h19, headBad]
        exact ⟨rfl, by simp [hds], by simp [hg], by simp [h1], by simp [h3]⟩
      | cons p r =>
        obtain ⟨pa, g3, g4⟩ := hx1.get (show 0 < (p :: r).length by simp)
        rw [show (p :: r).getD 0 default = p from rfl] at g4
        obtain ⟨_, ⟨p0, m0, n0⟩, ⟨p1, m1, n1⟩, ⟨p2, m2, n2⟩⟩ := g4.loads
        have i3 : vindexAddr Try.prog 29 x (.int .i64 0) = some pa := g3 .i64
        simp only [headBad, headV] at h19 ⊢
        generalize p.v = vv at h19
        cases vv with
        | true => simp [h19]; exact ⟨rfl, by simp [hds], by simp [hg], by simp [h1], by simp [h3]⟩
        | false => simp [h19, h1, f1, l1, i3, m2, n2]; exact ⟨rfl, by simp [hds], by simp [hg], by simp [h1], by simp [h3]⟩
  case t1 => as_aux_lemma =>
  clear hds hg h1 h3
  rintro e fr st' ⟨rfl, hst', ⟨hds, hg, h1, h3⟩, h25⟩
  rw [show st' = st1 from hst']
  clear hst'
  simp only [andThen]
  repeat refine Does.seq ?_
  cases hhb : headBad l with
  | true =>
    have hno : asgOk l = false := by
      cases l with
      | nil => rfl
      | cons p r =>
        simp only [headBad] at hhb
        simp only [asgOk]
        cases hv : p.v <;> cases hq : p.q <;> simp_all
    rw [hno]
    rw [hhb] at h25
    refine Does.condT (by simp [h25]) ?_
    repeat refine Does.seq ?_
    refine Does.region ?_
    have hs4 := store_all (P := Try.prog) (l := [.nils, .int .i64 0]) z31 b4 rfl rfl (by simp [on, oi])
    have hld := vload31 (st := { st1 with box := st1.box.put (id1 + 1) (.cells [.nils, .int .i64 0] 31 true (some 0)) }) (id := id1 + 1) (x := .nils) (a := 0) (e := 31) (fl := true) (fz := some 0) (by rw [Tr.get_put, if_pos rfl])
    have hk6 : Keep st { st1 with box := st1.box.put (id1 + 1) (.cells [.nils, .int .i64 0] 31 true (some 0)) } := Keep.put hk1 (by omega) _
    simp [h3, evParts, bld31e, vact, hs4]
    refine Does.ret ?_
    simp [hds, h3, hld]
    exact ⟨⟨_, _, _, rfl, rfl⟩, hk6⟩
  | false =>
    rw [hhb] at h25
    refine Does.condF (by simp [h25]) ?_
    refine Does.skip ?_
    simp only [andThen]
    cases l with
    | nil => cases hhb
    | cons p r =>
    have hok : asgOk (p :: r) = eqName p.t.toList := by
      simp only [headBad] at hhb
      simp only [asgOk]
      cases hv : p.v <;> cases hq : p.q <;> simp_all
    rw [hok]
    obtain ⟨pa, g3, g4⟩ := hx1.get (show 0 < (p :: r).length by simp)
    rw [show (p :: r).getD 0 default = p from rfl] at g4
    obtain ⟨_, _, ⟨p1, m1, n1⟩, _⟩ := g4.loads
    have i3 : vindexAddr Try.prog 29 x (.int .i64 0) = some pa := g3 .i64
    have hpn := hs p (by simp)
    clear hok
    obtain ⟨k, hk, hkn, hbef, hat, heq⟩ := tw_facts p.t
    rw [heq]
    clear heq hk
    repeat refine Does.seq ?_
    refine Does.region ?_
    refine Oks.cont (Q := fun fr st' => AtSt st1 st' ∧ AFr gl id1 fr ∧ Fr.at fr 5 = .str p.t) ?r3 ?t3
    case r3 => as_aux_lemma =>
      simp [h1, f1, l1, i3, m1, n1, hg]
      exact ⟨rfl, by simp [hds], by simp [hg], by simp [h1], by simp [h3]⟩
    case t3 => as_aux_lemma =>
    clear hds hg h1 h3 h25
    rintro fr st' ⟨hst', ⟨hds, hg, h1, h3⟩, h5⟩
    rw [show st' = st1 from hst']
    clear hst'
    simp only [andThen]
    repeat refine Does.seq ?_
    refine Does.region ?_
    simp
    repeat refine Does.seq ?_
    have vl9 : vlen Try.prog 9 (.str p.t) = some (.int .i64 ((p.t.n : Nat) : Int)) := vlen_str rfl
    refine Does.mono (Q := fun e fr st' => e = AE.normal ∧ AtSt st1 st' ∧ AFr gl id1 fr ∧ Fr.at fr 5 = .str p.t ∧ Fr.at fr 6 = .int .i64 (k : Int)) ?loop ?tl
    case loop => as_aux_lemma =>
      refine Does.block (Does.up k (fun i fr st' => AtSt st1 st' ∧ AFr gl id1 fr ∧ Fr.at fr 5 = .str p.t ∧ Fr.at fr 6 = .int .i64 (i : Int) ∧ i ≤ k) 0 ?init ?bound ?step)
      case init => exact ⟨rfl, ⟨by simp [hds], by simp [hg], by simp [h1], by simp [h3]⟩, by simp [h5], by simp, Nat.zero_le _⟩
      case bound => exact fun i fr st' h => h.2.2.2.2
      case step =>
        clear hds hg h1 h3 h5
        rintro i fr st' ⟨hst', ⟨hds, hg, h1, h3⟩, h5, h6, hi⟩
        rw [show st' = st1 from hst']
        clear hst'
        have elen : ∀ kk, vbin Try.prog kk .lss 3 (.int .i64 (i : Int)) (.int .i64 (p.t.n : Int)) = some (.bool (decide (i < p.t.n))) := fun kk => vI_lss rfl
        repeat refine Does.seq ?_
        refine Does.region ?_
        by_cases hik : i < k
        · rw [decide_eq_true (by omega)] at elen
          have vi9 : ∀ q, vindex Try.prog 9 (.str p.t) (.int q (i : Int)) = some (.int .u8 ((p.t.at i : Nat) : Int)) := fun q => vindex_str rfl (by omega)
          have hb := hbef i hik
          have ene : ∀ kk, vbin Try.prog kk .neq 5 (.int .u8 ((p.t.at i : Nat) : Int)) (.int .u8 61) = some (.bool true) := fun kk => by
            have := vI_neq (P := Try.prog) (kk := kk) (T := 5) (q := .u8) (c := p.t.at i) (m := 61) (k := 61) rfl
            rw [decide_eq_false hb] at this
            exact this
          have w1 : IntKind.i64.wrap ((i : Int) + 1) = (i : Int) + 1 := wrap_i64 (by omega) (by omega)
          simp [h5, h6, vl9, elen, vi9, ene]
          repeat refine Does.seq ?_
          refine Does.condT (by simp) ?_
          refine Does.skip ?_
          simp
          refine Does.block ?_
          refine Does.region ?_
          simp [h6, vbin_add, w1]
          exact ⟨i + 1, by omega, rfl, ⟨by simp [hds], by simp [hg], by simp [h1], by simp [h3]⟩, by simp [h5], by simp, by omega⟩
        · have hik' : i = k := by omega
          subst hik'
          by_cases hin : i < p.t.n
          · rw [decide_eq_true hin] at elen
            have vi9 : ∀ q, vindex Try.prog 9 (.str p.t) (.int q (i : Int)) = some (.int .u8 ((p.t.at i : Nat) : Int)) := fun q => vindex_str rfl hin
            rw [hat hin] at vi9
            have ene : ∀ kk, vbin Try.prog kk .neq 5 (.int .u8 ((61 : Nat) : Int)) (.int .u8 61) = some (.bool false) := fun kk => by
              exact vI_neq (P := Try.prog) (kk := kk) (T := 5) (q := .u8) (c := 61) (m := 61) (k := 61) rfl
            simp only [Int.cast_ofNat_Int] at ene vi9
            simp [h5, h6, vl9, elen, vi9, ene]
            repeat refine Does.seq ?_
            refine Does.condF (by simp) ?_
            refine Does.exit ?_
            simp only [andThen, inBlock, if_true]
            exact ⟨trivial, rfl, ⟨by simp [hds], by simp [hg], by simp [h1], by simp [h3]⟩, by simp [h5], by simp [h6]⟩
          · rw [decide_eq_false hin] at elen
            simp [h5, h6, vl9, elen]
            repeat refine Does.seq ?_
            refine Does.condF (by simp) ?_
            refine Does.exit ?_
            simp only [andThen, inBlock, if_true]
            exact ⟨trivial, rfl, ⟨by simp [hds], by simp [hg], by simp [h1], by simp [h3]⟩, by simp [h5], by simp [h6]⟩
    case tl => as_aux_lemma =>
    clear hds hg h1 h3 h5
    rintro e fr st' ⟨rfl, hst', ⟨hds, hg, h1, h3⟩, h5, h6⟩
    rw [show st' = st1 from hst']
    clear hst'
    simp only [andThen]
    repeat refine Does.seq ?_
    refine Does.region ?_
    have eeq : ∀ kk, vbin Try.prog kk .eql 3 (.int .i64 (k : Int)) (.int .i64 (p.t.n : Int)) = some (.bool (decide (k = p.t.n))) := fun kk => vI_eql rfl
    have hsl := vslice_hi (P := Try.prog) Try.underlying9 (s := p.t) (hi := k) hkn (k' := .i64)
    have hcn := ihCall_W (rName_ok gl st1 (p.t.cut 0 k) (by rw [cut_n]; omega))
    generalize nameL (p.t.cut 0 k).toList = nl at hcn
    have hdk : decide (k < p.t.n) = !decide (k = p.t.n) := by
      by_cases h : k = p.t.n
      · simp [h]
      · have : k < p.t.n := by omega
        simp [h, this]
    rw [hdk]
    generalize hkz : decide (k = p.t.n) = kz at eeq
    refine Oks.cont (Q := fun fr st' => AtSt st1 st' ∧ AFr gl id1 fr ∧ Fr.at fr 5 = .str p.t ∧ Fr.at fr 6 = .int .i64 (k : Int) ∧ Fr.at fr 54 = .bool (!(!kz && nl))) ?r7 ?t7
    case r7 => as_aux_lemma =>
      cases kz with
      | true => simp [h5, h6, vl9, eeq]; exact ⟨rfl, by simp [hds], by simp [hg], by simp [h1], by simp [h3]⟩
      | false => simp [h5, h6, vl9, eeq, hsl, hg, vcall_callable hk44, hcn]; exact ⟨rfl, by simp [hds], by simp [hg], by simp [h1], by simp [h3]⟩
    case t7 => as_aux_lemma =>
    clear hds hg h1 h3 h5 h6
    rintro fr st' ⟨hst', ⟨hds, hg, h1, h3⟩, h5, h6, h54⟩
    rw [show st' = st1 from hst']
    clear hst'
    simp only [andThen]
    repeat refine Does.seq ?_
    cases hyes : (!kz && nl) with
    | false =>
      rw [hyes] at h54
      refine Does.condT (by simp [h54]) ?_
      repeat refine Does.seq ?_
      refine Does.region ?_
      have hs4 := store_all (P := Try.prog) (l := [.nils, .int .i64 0]) z31 b4 rfl rfl (by simp [on, oi])
      have hld := vload31 (st := { st1 with box := st1.box.put (id1 + 1) (.cells [.nils, .int .i64 0] 31 true (some 0)) }) (id := id1 + 1) (x := .nils) (a := 0) (e := 31) (fl := true) (fz := some 0) (by rw [Tr.get_put, if_pos rfl])
      have hk6 : Keep st { st1 with box := st1.box.put (id1 + 1) (.cells [.nils, .int .i64 0] 31 true (some 0)) } := Keep.put hk1 (by omega) _
      simp [h3, evParts, bld31e, vact, hs4]
      refine Does.ret ?_
      simp [hds, h3, hld]
      exact ⟨⟨_, _, _, rfl, rfl⟩, hk6⟩
    | true =>
      rw [hyes] at h54
      have hklt : k < p.t.n := by
        cases kz with
        | true => simp at hyes
        | false => have : ¬ k = p.t.n := by simpa using hkz
                   omega
      refine Does.condF (by simp [h54]) ?_
      refine Does.skip ?_
      simp only [andThen]
      repeat refine Does.seq ?_
      refine Does.region ?_
      simp
      repeat refine Does.seq ?_
      refine Does.region ?_
      have w1 : IntKind.i64.wrap ((k : Int) + 1) = (k : Int) + 1 := wrap_i64 (by omega) (by omega)
      have e10 : ∀ kk, vbin Try.prog kk .lss 3 (.int .i64 ((k : Int) + 1)) (.int .i64 (p.t.n : Int)) = some (.bool (decide (k + 1 < p.t.n))) := fun kk => vI_lss (c := k + 1) (m := p.t.n) rfl
      refine Oks.cont (Q := fun fr st' => AtSt st1 st' ∧ AFr gl id1 fr ∧ Fr.at fr 5 = .str p.t ∧ Fr.at fr 6 = .int .i64 (k : Int) ∧ Fr.at fr 7 = .nils ∧ Fr.at fr 60 = .bool (decide (k + 1 < p.t.n))) ?r10 ?t10
      case r10 => as_aux_lemma =>
        generalize decide (k + 1 < p.t.n) = z at e10
        simp [h5, h6, vl9, vbin_add, w1, e10]; exact ⟨rfl, by simp [hds], by simp [hg], by simp [h1], by simp [h3]⟩
      case t10 => as_aux_lemma =>
      clear hds hg h1 h3 h5 h6 h54
      rintro fr st' ⟨hst', ⟨hds, hg, h1, h3⟩, h5, h6, h7, h60⟩
      rw [show st' = st1 from hst']
      clear hst'
      simp only [andThen]
      repeat refine Does.seq ?_
      have hon : OwnP st1.ctr st1 .nils [] := ⟨.inl ⟨rfl, rfl⟩⟩
      refine Does.mono (Q := ZQ gl id1 p.t k st1) ?c11 ?t11
      case c11 => as_aux_lemma =>
        by_cases hk1n : k + 1 < p.t.n
        · rw [decide_eq_true hk1n] at h60
          refine Does.condT (by simp [h60]) ?_
          refine Does.region ?_
          have hsl2 : vslice Try.prog 9 (.str p.t) (some (.int .i64 ((k : Int) + 1))) none = some (.str (p.t.cut (k + 1) p.t.n)) := vslice_lo (P := Try.prog) Try.underlying9 (s := p.t) (lo := k + 1) (by omega) (k := .i64)
          generalize p.t.cut (k + 1) p.t.n = q at hsl2
          have hk2 := (Keep.refl st1).new (.cells [.bool false, .str q, .bool false] 33 true (some 0))
          have ho : OwnP st1.ctr { ctr := st1.ctr + 1, box := st1.box.put st1.ctr (.cells [.bool false, .str q, .bool false] 33 true (some 0)) } (.ms st1.ctr 0 1 3 (some 1)) [⟨false, q, false⟩] :=
            ⟨.inr ⟨st1.ctr, some 1, true, rfl, by rw [Tr.get_put, if_pos rfl]; rfl, Nat.le_refl _, Nat.lt_succ_self _, .inl rfl⟩⟩
          have hon2 : OwnP st1.ctr { ctr := st1.ctr + 1, box := st1.box.put st1.ctr (.cells [.bool false, .str q, .bool false] 33 true (some 0)) } .nils [] := ⟨.inl ⟨rfl, rfl⟩⟩
          obtain ⟨z, st4, ha, ho', hlow⟩ := hon2.app ho.vp (by simp) (Nat.le_succ _)
          have bs1 := bs33 q
          have o3 : oneC (.bool false) = true := rfl
          have o4 : oneC (.str q) = true := rfl
          have hb33 := bld33 q
          simp [h5, h6, h7, vbin_add, w1, hsl2, evParts, hb33, valloc, bs1, mkRef, o3, o4, vact, ha]
          exact ⟨rfl, ⟨by simp [hds], by simp [hg], by simp [h1], by simp [h3]⟩, by simp [h5], by simp [h6], hlow.keep hk2 (Nat.le_refl _), Nat.le_trans (Nat.le_succ _) hlow.ctr, z, _, by simp, ho', by simp⟩
        · rw [decide_eq_false hk1n] at h60
          refine Does.condF (by simp [h60]) ?_
          refine Does.skip ?_
          exact ⟨rfl, ⟨by simp [hds], by simp [hg], by simp [h1], by simp [h3]⟩, by simp [h5], by simp [h6], .refl _, Nat.le_refl _, .nils, [], h7, hon, by simp⟩
      case t11 => as_aux_lemma =>
      clear hds hg h1 h3 h5 h6 h7 h60
      rintro e fr st5 ⟨rfl, ⟨hds, hg, h1, h3⟩, h5, h6, hk5, hc5, z, l5, h7, hz, hl5⟩
      simp only [andThen]
      repeat refine Does.seq ?_
      refine Does.region ?_
      obtain ⟨y1, hy1, hy2⟩ := (hx1.keep hk5).tail (lo := 1) (k := .i64) (by simp)
      rw [show ((1 : Nat) : Int) = 1 from rfl] at hy1
      obtain ⟨y, st6, ha, ho6, hlow⟩ := hz.app hy2 (by simp at hl ⊢; omega) hc5
      have hk6 : Keep st1 st6 := hlow.keep hk5 (Nat.le_refl _)
      have l5' := vload_of (P := Try.prog) (off := 0) sa29 sz29 (show st5.box.get id1 = _ by rw [hk5.box _ (by omega)]; exact b3) rfl
      refine Oks.cont (Q := fun fr st' => AtSt st6 st' ∧ AFr gl id1 fr ∧ Fr.at fr 5 = .str p.t ∧ Fr.at fr 6 = .int .i64 (k : Int) ∧ Fr.at fr 7 = y) ?r12 ?t12
      case r12 => as_aux_lemma =>
        simp [h5, h6, h7, h1, f1, l5', hy1, vact, ha]; exact ⟨rfl, by simp [hds], by simp [hg], by simp [h1], by simp [h3]⟩
      case t12 => as_aux_lemma =>
      clear hds hg h1 h3 h5 h6 h7
      rintro fr st' ⟨hst', ⟨hds, hg, h1, h3⟩, h5, h6, h8⟩
      rw [show st' = st6 from hst']
      clear hst'
      simp only [andThen]
      repeat refine Does.seq ?_
      refine Does.draw (b := [0, 0, 3, 0, 0, 16, 56, 7, 255, 511]) (l := [0, 1, 2, 3, 4, 5, 6, 7, 8, 9]) (by kernel_rfl) (by kernel_rfl) (by kernel_rfl) ?_
      have hk7 : Keep st { st6 with ctr := st6.ctr + 10 } := (hk1.trans hk6).tick 10
      have b3'' : st6.box.get id1 = some (.cells [x, .int .i64 a] 31 true (some 0)) := by rw [hk6.box _ (by omega)]; exact b3
      have b4'' : st6.box.get (id1 + 1) = some (.cells [.nils, .int .i64 0] 31 true (some 0)) := by rw [hk6.box _ (by omega)]; exact b4
      have la := vload_of (P := Try.prog) (st := { ctr := st6.ctr + 10, box := st6.box }) (off := 1) sa3 sz3 b3'' rfl
      have f2 := wf1 id1
      have hy := ho6.vp
      have oy := hy.one
      have hbl := bld31' hy a
      have hs4 := store_all (P := Try.prog) (st := { ctr := st6.ctr + 10, box := st6.box }) (l := [y, .int .i64 a]) z31 b4'' rfl rfl (by simp [oy, oi])
      have hld := vload31 (st := { ctr := st6.ctr + 10, box := st6.box.put (id1 + 1) (.cells [y, .int .i64 a] 31 true (some 0)) }) (id := id1 + 1) (x := y) (a := a) (e := 31) (fl := true) (fz := some 0) (by rw [Tr.get_put, if_pos rfl])
      have hk8 : Keep st { ctr := st6.ctr + 10, box := st6.box.put (id1 + 1) (.cells [y, .int .i64 a] 31 true (some 0)) } := Keep.put hk7 (by omega) _
      simp [sameIn, h1, h3, h5, h6, h8, hsl, f2, la, evParts, hbl, vact, hs4, veq_int]
      refine Does.ret ?_
      simp [hds, h3, hld]
      exact ⟨⟨_, _, _, rfl, oy⟩, hk8⟩
end Go.Vm

namespace Go.Vm
open Go Go.Proofs Go.Sy
attribute [local simp] Oks xOps vwanted isDefer vop kindOf vpure ev evs toV andThen inBlock atTo_some Fr.dsTo Fr.glTo Fr.toNone initFr_at initFr_ds initFr_gl veff traverse tupled vresult V.undef evOpt xDraw xStep

/-- a published row of values of so many cells -/
inductive Row {α : Type} (f : α → List V) : V → List α → Prop
  | nils : Row f .nils []
  | sl (l : List α) (ex : Bool) : Row f (.sl l.length (l.flatMap f) ex) l

theorem Row.one {α : Type} {f : α → List V} {x : V} {l : List α} (h : Row f x l) : oneC x = true := by cases h <;> rfl
theorem Row.len {α : Type} {f : α → List V} {x : V} {l : List α} (h : Row f x l) {P : Program} {T e : TypeId} (hT : P.underlying T = some (.slice e)) : vlen P T x = some (.int .i64 (l.length : Int)) := by
  cases h <;> simp [vlen, hT]
theorem flat_drop {α : Type} {f : α → List V} {z : Nat} : ∀ (l : List α) (_ : ∀ a ∈ l, (f a).length = z) (i : Nat) (h : i < l.length), (l.flatMap f).drop (i * z) = f l[i] ++ (l.drop (i + 1)).flatMap f
  | [], _, i, h => by simp at h
  | a :: r, hz, 0, _ => by simp
  | a :: r, hz, i + 1, h => by
    have ha : (f a).length = z := hz a (by simp)
    rw [List.flatMap_cons, Nat.succ_mul, Nat.add_comm, ← List.drop_drop, show (f a ++ r.flatMap f).drop z = r.flatMap f from by rw [← ha]; simp, flat_drop r (fun b hb => hz b (by simp [hb])) i (by simpa using h)]
    simp
theorem Row.get {α : Type} {f : α → List V} {z : Nat} {x : V} {l : List α} (h : Row f x l) (hz : ∀ a ∈ l, (f a).length = z) {P : Program} {T e : TypeId} (hT : P.underlying T = some (.slice e)) (he : sizeT P e = some z) {i : Nat} (hi : i < l.length) :
    ∃ r, ∀ k, vindexAddr P T x (.int k (i : Int)) = some (.cp (f l[i] ++ r)) := by
  have hb : Nat.blt i l.length = true := by rw [blt_dec]; exact decide_eq_true hi
  cases h with
  | nils => simp at hi
  | sl l ex => exact ⟨(l.drop (i + 1)).flatMap f, fun k => by simp only [vindexAddr, hT, asNat_cast, he, hb]; rw [flat_drop l hz i hi]⟩

/-- a word -/
structure Ww where
  x : V
  a : Int
  l : List Wp
def Ww.cells (w : Ww) : List V := [w.x, .int .i64 w.a]
def Ww.ok (w : Ww) : Prop := Row Wp.cells w.x w.l
theorem Ww.len2 (w : Ww) : w.cells.length = 2 := rfl
theorem Row.vp {x : V} {l : List Wp} (h : Row Wp.cells x l) (st : St) : Vp st x l := by
  cases h with
  | nils => exact .nils
  | sl l ex => exact .sl l ex
theorem Ww.wv {w : Ww} (h : w.ok) (st : St) : Wv st (.agg w.cells) w.l := ⟨w.x, w.a, rfl, h.vp st⟩
/-- small enough -/
def Ww.small (w : Ww) : Prop := w.l.length < 900000 ∧ (textP w.l).length < 2000000 ∧ vsz w.x < 10000000
theorem Ww.small_part {w : Ww} (h : w.small) : ∀ p ∈ w.l, p.t.n < 2000000 := by
  have : ∀ (l : List Wp), ∀ p ∈ l, p.t.n ≤ (textP l).length := fun l => by
    induction l with
    | nil => intro p hp; simp at hp
    | cons q r ih =>
      intro p hp
      have h1 : textP (q :: r) = q.t.toList ++ textP r := rfl
      rw [h1, List.length_append, S.len]
      rcases List.mem_cons.1 hp with rfl | hp
      · omega
      · have := ih p hp; omega
  intro p hp
  exact Nat.lt_of_le_of_lt (this w.l p hp) h.2.1

/-- may this word be? -/
def Ww.may (w : Ww) : Bool := mayW (w.l.map Wp.key)

theorem load31 (w : Ww) (r : List V) (st : St) : vload Try.prog st 31 (.cp (w.cells ++ r)) = some (.agg w.cells) := by
  simp only [vload, vpart, a31, z31, sub]
  rfl

/-- a command -/
inductive Cw
  | mk (k : Nat) (a : Int) (nm : S) (wv : V) (ws : List Ww) (kv : V) (kids : List Cw)
def Cw.cells : Cw → List V
  | .mk k a nm wv _ kv _ => [.int .u8 (k : Int), .int .i64 a, .str nm, wv, kv]
inductive Cw.ok : Cw → Prop
  | mk (k : Nat) (a : Int) (nm : S) (wv : V) (ws : List Ww) (kv : V) (kids : List Cw) (hk : k < 256) (hw : Row Ww.cells wv ws) (hws : ∀ w ∈ ws, w.ok) (hkv : Row Cw.cells kv kids) (hks : ∀ c ∈ kids, Cw.ok c) : Cw.ok (.mk k a nm wv ws kv kids)
inductive Cw.small : Cw → Prop
  | mk (k : Nat) (a : Int) (nm : S) (wv : V) (ws : List Ww) (kv : V) (kids : List Cw) (hn : nm.n < 2000000) (hwl : ws.length < 1000000) (hkl : kids.length < 1000000) (hwz : vsz wv < 10000000) (hkz : vsz kv < 10000000)
      (hws : ∀ w ∈ ws, w.small) (hks : ∀ c ∈ kids, Cw.small c) : Cw.small (.mk k a nm wv ws kv kids)
theorem Cw.len5 (c : Cw) : c.cells.length = 5 := by cases c; rfl
theorem z25 : sizeT Try.prog 25 = some 5 := by kernel_rfl
theorem a25 : isAggT Try.prog 25 = some true := by kernel_rfl
theorem load25 (c : Cw) (r : List V) (st : St) : vload Try.prog st 25 (.cp (c.cells ++ r)) = some (.agg c.cells) := by
  cases c
  simp only [vload, vpart, a25, z25, sub]
  rfl

/-- the first so many may be -/
def AllTo (ws : List Ww) (i : Nat) : Prop := (ws.take i).all Ww.may = true
theorem all_zero (ws : List Ww) : AllTo ws 0 := rfl
theorem all_end {ws : List Ww} {i : Nat} (h : AllTo ws i) (hi : ws.length ≤ i) : ws.all Ww.may = true := by
  unfold AllTo at h; rwa [List.take_of_length_le hi] at h
theorem all_step {ws : List Ww} {i : Nat} (h : AllTo ws i) (hi : i < ws.length) (hb : ws[i].may = true) : AllTo ws (i + 1) := by
  unfold AllTo at h ⊢
  rw [List.take_add_one, List.getElem?_eq_getElem hi, List.all_append, h]
  simp [hb]
theorem all_no {ws : List Ww} {i : Nat} (hi : i < ws.length) (hb : ws[i].may = false) : ws.all Ww.may = false := by
  rw [Bool.eq_false_iff]
  intro h
  rw [List.all_eq_true] at h
  have := h _ (List.getElem_mem hi)
  rw [hb] at this
  cases this

variable [Memo] [NY]

/-- the document's words -/
theorem rWords_ok (gl : Gl) (st : St) (x : V) (ws : List Ww) (hx : Row Ww.cells x ws) (hok : ∀ w ∈ ws, w.ok) (hs : ∀ w ∈ ws, w.small) (hl : ws.length < 1000000) :
    ∃ v st', W Try.prog (.call gl 22 [x]) st = .call (.val v st') ∧ v = .bool (ws.all Ww.may) ∧ Keep st st' := by
  have hk35 : callable Try.prog 35 = true := by kernel_rfl
  have lx := hx.len Try.underlying22
  refine call_ex (NY.no _ rfl rfl _ _) Try.func22 rfl (by kernel_rfl) ?_
  repeat refine Does.seq ?_
  refine Does.region ?_
  simp
  repeat refine Does.seq ?_
  refine Does.region ?_
  simp
  generalize hA : ws.all Ww.may = A
  refine Does.mono (Q := fun e fr' st' => Keep st st' ∧ fr'.ds = [] ∧ ((e = AE.ret ∧ Fr.at fr' 2 = .bool false ∧ A = false) ∨ (e = AE.normal ∧ A = true))) ?loop ?tail
  case tail => as_aux_lemma =>
    rintro e fr' st' ⟨hk, hds, ⟨rfl, h2, hc⟩ | ⟨rfl, hc⟩⟩
    · simp only [andThen]
      simp [hds, h2, hc, hk]
    · simp only [andThen]
      repeat refine Does.seq ?_
      refine Does.region ?_
      simp
      refine Does.ret ?_
      simp [hds, hc, hk]
  case loop => as_aux_lemma =>
    refine Does.block (Does.up ws.length (fun i fr st' => Keep st st' ∧ fr.ds = [] ∧ fr.gl = gl ∧ Fr.at fr 0 = x ∧ Fr.at fr 3 = .int .i64 (i : Int) ∧ i ≤ ws.length ∧ AllTo ws i) 0 ?init ?bound ?step)
    case init => exact ⟨.refl st, by simp, by simp, by simp, by simp, Nat.zero_le _, all_zero _⟩
    case bound => exact fun i fr st' h => h.2.2.2.2.2.1
    case step =>
      rintro i fr st' ⟨hk, hds, hg, h0, h3, hi, hall⟩
      have elen : ∀ kk, vbin Try.prog kk .lss 3 (.int .i64 (i : Int)) (.int .i64 (ws.length : Int)) = some (.bool (decide (i < ws.length))) := fun kk => vI_lss rfl
      repeat refine Does.seq ?_
      refine Does.region ?_
      by_cases hlt : i < ws.length
      rotate_left
      · rw [decide_eq_false hlt] at elen
        simp [h0, h3, lx, elen]
        repeat refine Does.seq ?_
        refine Does.condF (by simp) ?_
        refine Does.exit ?_
        simp only [inBlock, if_true, andThen]
        exact ⟨hk, by simp [hds], .inr ⟨trivial, by rw [← hA]; exact all_end hall (by omega)⟩⟩
      · rw [decide_eq_true hlt] at elen
        obtain ⟨r, g1⟩ := hx.get (z := 2) (fun _ _ => rfl) Try.underlying22 z31 hlt
        have i1 := g1 .i64
        have hm := List.getElem_mem hlt
        have hw := hok _ hm
        have hsm := hs _ hm
        have hld := load31 ws[i] r st'
        obtain ⟨v, st2, hc, rfl, hk2⟩ := rMay_ok gl st' (.agg ws[i].cells) ws[i].l (Ww.wv hw st') (by have := hsm.1; omega) (fun p hp => by have := Ww.small_part hsm p hp; omega)
        have hc := ihCall_W hc
        rw [show mayW (ws[i].l.map Wp.key) = ws[i].may from rfl] at hc
        have hstep := fun h => all_step hall hlt h
        have hnot := fun h => all_no hlt h
        generalize ws[i].may = mb at hc hstep hnot
        generalize ws[i].cells = cs at hld hc i1
        have w1 : IntKind.i64.wrap ((i : Int) + 1) = (i : Int) + 1 := wrap_i64 (by omega) (by omega)
        simp [h0, h3, lx, elen]
        repeat refine Does.seq ?_
        refine Does.condT (by simp) ?_
        refine Does.skip ?_
        simp
        repeat refine Does.seq ?_
        refine Does.block ?_
        repeat refine Does.seq ?_
        refine Does.region ?_
        simp [h0, h3, i1, hld, hg, vcall_callable hk35, hc]
        repeat refine Does.seq ?_
        cases mb with
        | false =>
          refine Does.condT (by simp) ?_
          repeat refine Does.seq ?_
          refine Does.region ?_
          simp
          refine Does.ret ?_
          simp only [andThen, inBlock]
          exact ⟨hk.trans hk2, by simp [hds], .inl ⟨trivial, by simp, by rw [← hA]; exact hnot rfl⟩⟩
        | true =>
          refine Does.condF (by simp) ?_
          refine Does.skip ?_
          simp only [andThen, inBlock]
          refine Does.region ?_
          simp [h3, vbin_add, w1]
          exact ⟨i + 1, by omega, hk.trans hk2, by simp [hds], by simp [hg], by simp [h0], by simp, by omega, hstep rfl⟩
end Go.Vm

namespace Go.Vm
open Go Go.Proofs Go.Sy
attribute [local simp] Oks xOps vwanted isDefer vop kindOf vpure ev evs toV andThen inBlock atTo_some Fr.dsTo Fr.glTo Fr.toNone initFr_at initFr_ds initFr_gl veff traverse tupled vresult V.undef evOpt xDraw xStep

def IxQ (st : St) (A : Bool) (e : AE) (fr' : Fr) (st' : St) : Prop := Keep st st' ∧ fr'.ds = [] ∧ ((e = AE.ret ∧ (∃ r : Nat, Fr.at fr' 4 = .int .i64 (r : Int)) ∧ A = false) ∨ (e = AE.normal ∧ A = true))

variable [Memo] [NY]

theorem notMay_ok (gl : Gl) {aL : List V} (hh : Hits gl aL) (st : St) (w : Ww) (hw : w.ok) (hs : w.small) :
    ∃ v st', W Try.prog (.call gl 31 [.agg w.cells]) st = .call (.val v st') ∧ v = .bool (!w.may) ∧ Keep st st' := by
  have hk24 : callable Try.prog 24 = true := by kernel_rfl
  refine call_ex (NY.no _ rfl rfl _ _) Try.func31 rfl (by kernel_rfl) ?_
  repeat refine Does.seq ?_
  refine Does.region ?_
  have ox : oneC w.x = true := hw.one
  have oi : ∀ k n, oneC (.int k n) = true := fun _ _ => rfl
  simp [valloc, V.cells, Ww.cells, ox, oi, mkRef]
  have hk1 := newWord_keep st w.x w.a
  have b1 := newWord_box st w.x w.a
  rw [show ({ ctr := st.ctr + 1, box := st.box.put st.ctr (.cells [w.x, .int .i64 w.a] 31 true (some 0)) } : St) = newWord st w.x w.a from rfl]
  revert hk1 b1
  generalize newWord st w.x w.a = st1
  intro hk1 b1
  have hld := vload31 b1
  rw [show V.agg [w.x, .int .i64 w.a] = .agg w.cells from rfl] at hld
  obtain ⟨v, st2, hc, rfl, hk2⟩ := wMay_ok gl hh st1 (.agg w.cells) w.l (Ww.wv hw st1) (by have := hs.1; omega) (fun p hp => by have := Ww.small_part hs p hp; omega)
  have hc := ihCall_W hc
  rw [show mayW (w.l.map Wp.key) = w.may from rfl] at hc
  repeat refine Does.seq ?_
  refine Does.region ?_
  generalize w.may = mb at hc
  simp [hld, vcall_callable hk24, hc]
  refine Does.ret ?_
  simp
  exact hk1.trans hk2

theorem indexFunc_ok (gl : Gl) {aL : List V} (hh : Hits gl aL) (st : St) (x : V) (ws : List Ww) (hx : Row Ww.cells x ws) (hok : ∀ w ∈ ws, w.ok) (hs : ∀ w ∈ ws, w.small) (hl : ws.length < 1000000) :
    ∃ v st', W Try.prog (.call gl 43 [x, .fn 31 [] []]) st = .call (.val v st') ∧ (∃ r : Int, v = .int .i64 r ∧ decide (0 ≤ r) = !ws.all Ww.may) ∧ Keep st st' := by
  have hk31 : callable Try.prog 31 = true := by kernel_rfl
  have lx := hx.len Try.underlying22
  refine call_ex (NY.no _ rfl rfl _ _) Try.func43 rfl (by kernel_rfl) ?_
  repeat refine Does.seq ?_
  refine Does.region ?_
  simp
  repeat refine Does.seq ?_
  refine Does.region ?_
  simp [lx]
  generalize hA : ws.all Ww.may = A
  refine Does.mono (Q := IxQ st A) ?loop ?tail
  case tail => as_aux_lemma =>
    rintro e fr' st' ⟨hk, hds, ⟨rfl, ⟨r, h4⟩, hc⟩ | ⟨rfl, hc⟩⟩
    · simp only [andThen]
      simp [hds, h4, hc, hk]
    · simp only [andThen]
      repeat refine Does.seq ?_
      refine Does.region ?_
      simp
      refine Does.ret ?_
      simp [hds, hc, hk]
  case loop => as_aux_lemma =>
    refine Does.block (Does.up ws.length (fun i fr st' => Keep st st' ∧ fr.ds = [] ∧ fr.gl = gl ∧ Fr.at fr 0 = x ∧ Fr.at fr 1 = .fn 31 [] [] ∧ Fr.at fr 7 = .int .i64 (ws.length : Int) ∧ Fr.at fr 8 = .int .i64 (i : Int) ∧ i ≤ ws.length ∧ AllTo ws i) 0 ?init ?bound ?step)
    case init => exact ⟨.refl st, by simp, by simp, by simp, by simp, by simp, by simp, Nat.zero_le _, all_zero _⟩
    case bound => exact fun i fr st' h => h.2.2.2.2.2.2.2.1
    case step =>
      rintro i fr st' ⟨hk, hds, hg, h0, h1, h7, h8, hi, hall⟩
      have elen : ∀ kk, vbin Try.prog kk .lss 3 (.int .i64 (i : Int)) (.int .i64 (ws.length : Int)) = some (.bool (decide (i < ws.length))) := fun kk => vI_lss rfl
      repeat refine Does.seq ?_
      refine Does.region ?_
      by_cases hlt : i < ws.length
      rotate_left
      · rw [decide_eq_false hlt] at elen
        simp [h7, h8, elen]
        repeat refine Does.seq ?_
        refine Does.condF (by simp) ?_
        refine Does.exit ?_
        simp only [inBlock, if_true, andThen]
        exact ⟨hk, by simp [hds], .inr ⟨rfl, by rw [← hA]; exact all_end hall (by omega)⟩⟩
      · rw [decide_eq_true hlt] at elen
        obtain ⟨r, g1⟩ := hx.get (z := 2) (fun _ _ => rfl) Try.underlying22 z31 hlt
        have i1 := g1 .i64
        have hm := List.getElem_mem hlt
        have hw := hok _ hm
        have hsm := hs _ hm
        have hld := load31 ws[i] r st'
        obtain ⟨v, st2, hc, rfl, hk2⟩ := notMay_ok gl hh st' ws[i] hw hsm
        have hc := ihCall_W hc
        have hstep := fun h => all_step hall hlt h
        have hnot := fun h => all_no hlt h
        generalize ws[i].may = mb at hc hstep hnot
        generalize ws[i].cells = cs at hld hc i1
        have w1 : IntKind.i64.wrap ((i : Int) + 1) = (i : Int) + 1 := wrap_i64 (by omega) (by omega)
        simp [h7, h8, elen]
        repeat refine Does.seq ?_
        refine Does.condT (by simp) ?_
        refine Does.skip ?_
        simp
        repeat refine Does.seq ?_
        refine Does.block ?_
        repeat refine Does.seq ?_
        refine Does.region ?_
        simp [h8]
        repeat refine Does.seq ?_
        refine Does.region ?_
        simp [h0, h1, i1, hld, hg, vcall_callable hk31, hc]
        repeat refine Does.seq ?_
        cases mb with
        | false =>
          refine Does.condT (by simp) ?_
          repeat refine Does.seq ?_
          refine Does.region ?_
          simp
          refine Does.ret ?_
          simp only [andThen, inBlock]
          exact ⟨hk.trans hk2, by simp [hds], .inl ⟨rfl, ⟨i, by simp⟩, by rw [← hA]; exact hnot rfl⟩⟩
        | true =>
          refine Does.condF (by simp) ?_
          refine Does.skip ?_
          simp only [andThen, inBlock]
          refine Does.region ?_
          simp [h8, vbin_add, w1]
          exact ⟨i + 1, by omega, hk.trans hk2, by simp [hds], by simp [hg], by simp [h0], by simp [h1], by simp [h7], by simp, by omega, hstep rfl⟩

/-- all words -/
theorem wAll_ok (gl : Gl) {aL : List V} (hh : Hits gl aL) (st : St) (x : V) (ws : List Ww) (hx : Row Ww.cells x ws) (hok : ∀ w ∈ ws, w.ok) (hs : ∀ w ∈ ws, w.small) (hl : ws.length < 1000000) :
    ∃ v st', W Try.prog (.call gl 19 [x]) st = .call (.val v st') ∧ v = .bool (ws.all Ww.may) ∧ Keep st st' := by
  have hk43 : callable Try.prog 43 = true := by kernel_rfl
  have hk30 : callable Try.prog 30 = true := by kernel_rfl
  obtain ⟨v, st1, hc, ⟨r, rfl, hr⟩, hk1⟩ := indexFunc_ok gl hh st x ws hx hok hs hl
  have hc := ihCall_W hc
  generalize ws.all Ww.may = A at hr
  have h30 : ∃ v st', W Try.prog (.call gl 30 [x, .fn 31 [] []]) st = .call (.val v st') ∧ v = .bool (!A) ∧ st' = st1 := by
    refine call_ex (NY.no _ rfl rfl _ _) Try.func30 rfl (by kernel_rfl) ?_
    repeat refine Does.seq ?_
    refine Does.region ?_
    simp
    repeat refine Does.seq ?_
    refine Does.region ?_
    have eg : ∀ kk, vbin Try.prog kk .geq 3 (.int .i64 r) (.int .i64 0) = some (.bool (!A)) := fun kk => by rw [vbin_geq, ← hr]
    simp [vcall_callable hk43, hc, eg]
    refine Does.ret ?_
    simp
  obtain ⟨v, st2, hc3, rfl, rfl⟩ := h30
  have hc3 := ihCall_W hc3
  refine call_ex (NY.no _ rfl rfl _ _) Try.func19 rfl (by kernel_rfl) ?_
  repeat refine Does.seq ?_
  refine Does.region ?_
  simp
  repeat refine Does.seq ?_
  refine Does.region ?_
  simp [vcall_callable hk30, hc3]
  refine Does.ret ?_
  simp
  exact hk1
end Go.Vm

namespace Go.Vm
open Go Go.Proofs Go.Sy
attribute [local simp] Oks xOps vwanted isDefer vop kindOf vpure ev evs toV andThen inBlock atTo_some Fr.dsTo Fr.glTo Fr.toNone initFr_at initFr_ds initFr_gl veff traverse tupled vresult V.undef evOpt xDraw xStep

def headW : List Ww → List Wp
  | [] => []
  | w :: _ => w.l
def plainRes (l : List Wp) : Bool := okP l && !decide (l.length = 0) && decide (textP l ∈ resL)
/-- may a simple command be? -/
def simpleB (nm : S) (ws : List Ww) : Bool :=
  if nm.n = 0 then !decide (ws.length = 0) && decide (ws.length ≤ 64) && ws.all Ww.may && !plainRes (headW ws) && !asgOk (headW ws)
  else nameL nm.toList && decide (ws.length = 1) && mayW ((asgW nm (headW ws)).map Wp.key)

/-- a variable that holds a command -/
def newCmd (st : St) (k : Nat) (a : Int) (nm : S) (wv kv : V) : St := { ctr := st.ctr + 1, box := st.box.put st.ctr (.cells [.int .u8 (k : Int), .int .i64 a, .str nm, wv, kv] 25 true (some 0)) }
theorem newCmd_keep (st : St) (k : Nat) (a : Int) (nm : S) (wv kv : V) : Keep st (newCmd st k a nm wv kv) := (Keep.refl st).new _
theorem newCmd_box (st : St) (k : Nat) (a : Int) (nm : S) (wv kv : V) : (newCmd st k a nm wv kv).box.get st.ctr = some (.cells [.int .u8 (k : Int), .int .i64 a, .str nm, wv, kv] 25 true (some 0)) := by unfold newCmd; rw [Tr.get_put, if_pos rfl]
theorem newCmd_ctr (st : St) (k : Nat) (a : Int) (nm : S) (wv kv : V) : st.ctr < (newCmd st k a nm wv kv).ctr := Nat.lt_succ_self _
theorem cg0 (id : Nat) : vfieldAddr Try.prog 25 (.ptr id 0) 0 = some (.ptr id 0) := by kernel_rfl
theorem cg2 (id : Nat) : vfieldAddr Try.prog 25 (.ptr id 0) 2 = some (.ptr id 2) := by kernel_rfl
theorem cg3 (id : Nat) : vfieldAddr Try.prog 25 (.ptr id 0) 3 = some (.ptr id 3) := by kernel_rfl
theorem cg4 (id : Nat) : vfieldAddr Try.prog 25 (.ptr id 0) 4 = some (.ptr id 4) := by kernel_rfl
theorem sz5 : sizeT Try.prog 5 = some 1 := by kernel_rfl
theorem sa5 : isAggT Try.prog 5 = some false := by kernel_rfl
theorem sz22 : sizeT Try.prog 22 = some 1 := by kernel_rfl
theorem sa22 : isAggT Try.prog 22 = some false := by kernel_rfl
theorem sz23 : sizeT Try.prog 23 = some 1 := by kernel_rfl
theorem sa23 : isAggT Try.prog 23 = some false := by kernel_rfl

theorem asgW_len (nm : S) (l : List Wp) : (asgW nm l).length ≤ l.length + 1 := by
  cases l with
  | nil => exact Nat.le_refl _
  | cons p r =>
    rw [asgW]
    split <;> simp
theorem asgW_text {nm : S} {l : List Wp} {B C : Nat} (hn : nm.n < B) (h : ∀ p ∈ l, p.t.n < C) : ∀ p ∈ asgW nm l, p.t.n < B + C + 1 := by
  have e1 : (nm.app (S.ofList [61])).n = nm.n + 1 := rfl
  cases l with
  | nil =>
    intro p hp
    simp only [asgW, List.mem_singleton] at hp
    subst hp
    simp only [e1]; omega
  | cons q r =>
    intro p hp
    have hq := h q (by simp)
    have e2 : ((nm.app (S.ofList [61])).app q.t).n = nm.n + 1 + q.t.n := rfl
    rw [asgW] at hp
    split at hp
    · rcases List.mem_cons.1 hp with rfl | hp
      · simp only [e2]; omega
      · have := h p (by simp [hp]); omega
    · rcases List.mem_cons.1 hp with rfl | hp
      · simp only [e1]; omega
      · have := h p hp; omega

def SimQ (gl : Gl) (st1 : St) (id1 : Nat) (b : Bool) (e : AE) (fr : Fr) (st' : St) : Prop := e = AE.normal ∧ Keep st1 st' ∧ fr.ds = [] ∧ fr.gl = gl ∧ Fr.at fr 1 = .ptr id1 0 ∧ Fr.at fr 45 = .bool (!b)

variable [Memo] [NY]

set_option maxHeartbeats 1000000 in
theorem wSimple_ok (gl : Gl) {aL : List V} (hh : Hits gl aL) (st : St) (k : Nat) (a : Int) (nm : S) (wv : V) (ws : List Ww) (kv : V) (hn : nm.n < 2000000) (hl : ws.length < 1000000) (hz : vsz wv < 10000000) (hkv : oneC kv = true)
    (hw : Row Ww.cells wv ws) (hok : ∀ w ∈ ws, w.ok) (hs : ∀ w ∈ ws, w.small) :
    ∃ v st', W Try.prog (.call gl 17 [.agg [.int .u8 (k : Int), .int .i64 a, .str nm, wv, kv]]) st = .call (.val v st') ∧ v = .bool (simpleB nm ws) ∧ Keep st st' := by
  have hk18 : callable Try.prog 18 = true := by kernel_rfl
  have hk19 : callable Try.prog 19 = true := by kernel_rfl
  have hk24 : callable Try.prog 24 = true := by kernel_rfl
  have hk25 : callable Try.prog 25 = true := by kernel_rfl
  have hk26 : callable Try.prog 26 = true := by kernel_rfl
  have hk27 : callable Try.prog 27 = true := by kernel_rfl
  have hk28 : callable Try.prog 28 = true := by kernel_rfl
  have ow := hw.one
  have oi : ∀ k n, oneC (.int k n) = true := fun _ _ => rfl
  have os : ∀ s, oneC (.str s) = true := fun _ => rfl
  have lx := hw.len Try.underlying22
  refine call_ex (NY.no _ rfl rfl _ _) Try.func17 rfl (by kernel_rfl) ?_
  repeat refine Does.seq ?_
  refine Does.region ?_
  simp [valloc, V.cells, ow, oi, os, hkv, mkRef]
  have hk1 := newCmd_keep st k a nm wv kv
  have b1 := newCmd_box st k a nm wv kv
  have hct := newCmd_ctr st k a nm wv kv
  rw [show ({ ctr := st.ctr + 1, box := st.box.put st.ctr (.cells [.int .u8 (k : Int), .int .i64 a, .str nm, wv, kv] 25 true (some 0)) } : St) = newCmd st k a nm wv kv from rfl]
  revert hk1 b1 hct
  generalize newCmd st k a nm wv kv = st1
  generalize hid1 : st.ctr = id1
  intro hk1 b1 hct
  have l2 := vload_of (P := Try.prog) (off := 2) sa9 sz9 b1 rfl
  have l3 := vload_of (P := Try.prog) (off := 3) sa22 sz22 b1 rfl
  have f2 := cg2 id1
  have f3 := cg3 id1
  have hemp := same_empty nm
  unfold simpleB
  repeat refine Does.seq ?_
  refine Does.region ?_
  by_cases hz : nm.n = 0
  · rw [if_pos hz]
    have hd64 : decide (ws.length ≤ 64) = !decide (64 < ws.length) := by
      by_cases h : ws.length ≤ 64
      · have : ¬ 64 < ws.length := by omega
        simp [h, this]
      · have : 64 < ws.length := by omega
        simp [h, this]
    rw [hd64]
    generalize hcA : (!decide (ws.length = 0) && !decide (64 < ws.length) && ws.all Ww.may) = cA
    generalize hPR : plainRes (headW ws) = PR
    generalize hAO : asgOk (headW ws) = AO
    rw [decide_eq_true hz] at hemp
    simp [f2, l2, vbin_sneq, hemp]
    repeat refine Does.seq ?_
    refine Does.condF (by simp) ?_
    refine Does.skip ?_
    simp
    repeat refine Does.seq ?_
    have e0 : ∀ kk, vbin Try.prog kk .eql 3 (.int .i64 (ws.length : Int)) (.int .i64 0) = some (.bool (decide (ws.length = 0))) := fun kk => vI_eql rfl
    have e64 : ∀ kk, vbin Try.prog kk .gtr 3 (.int .i64 (ws.length : Int)) (.int .i64 64) = some (.bool (decide (64 < ws.length))) := fun kk => vI_gtr rfl
    obtain ⟨v2, st2, hc2, hv2, hk2⟩ := wAll_ok gl hh st1 wv ws hw hok hs hl
    have hc2 := ihCall_W hc2
    subst hv2
    refine Does.mono (Q := SimQ gl st1 id1 cA) ?r3 ?t3
    case r3 => as_aux_lemma =>
      refine Does.region ?_
      refine Oks.cont (Q := fun fr st' => SimQ gl st1 id1 cA AE.normal fr st') ?_ (fun fr st' h => h)
      rw [← hcA]
      generalize decide (ws.length = 0) = D0 at e0
      generalize decide (64 < ws.length) = D1 at e64
      generalize ws.all Ww.may = A at hc2
      cases D0 with
      | true =>
        simp [f3, l3, lx, e0]
        exact ⟨rfl, .refl _, by simp, by simp, by simp, by simp⟩
      | false =>
        cases D1 with
        | true =>
          simp [f3, l3, lx, e0, e64]
          exact ⟨rfl, .refl _, by simp, by simp, by simp, by simp⟩
        | false =>
          simp [f3, l3, lx, e0, e64, vcall_callable hk19, hc2]
          exact ⟨rfl, hk2, by simp, by simp, by simp, by simp⟩
    case t3 => as_aux_lemma =>
    clear hk2
    rintro e fr st2 ⟨rfl, hk2, hds, hg, h1, h45⟩
    simp only [andThen]
    repeat refine Does.seq ?_
    cases cA with
    | false =>
      refine Does.condT (by simp [h45]) ?_
      repeat refine Does.seq ?_
      refine Does.region ?_
      simp
      refine Does.ret ?_
      simp [hds]
      exact hk1.trans hk2
    | true =>
    refine Does.condF (by simp [h45]) ?_
    refine Does.skip ?_
    simp only [andThen, Bool.true_and]
    cases ws with
    | nil => simp at hcA
    | cons w r =>
    clear e0 e64 hd64 hcA
    subst hPR hAO
    rw [show headW (w :: r) = w.l from rfl]
    have hwo := hok w (by simp)
    have hws := hs w (by simp)
    have hpts := Ww.small_part hws
    have hk12 := hk1.trans hk2
    have b2 : st2.box.get id1 = some (.cells [.int .u8 (k : Int), .int .i64 a, .str nm, wv, kv] 25 true (some 0)) := by rw [hk2.box _ hct]; exact b1
    have l32 := vload_of (P := Try.prog) (off := 3) sa22 sz22 b2 rfl
    obtain ⟨rr, g1⟩ := hw.get (z := 2) (fun _ _ => rfl) Try.underlying22 z31 (show 0 < (w :: r).length by simp)
    have i1 : vindexAddr Try.prog 22 wv (.int .i64 0) = some (.cp (w.cells ++ rr)) := g1 .i64
    have hld := load31 w rr st2
    obtain ⟨v3, st3, hc3, ⟨s, rfl, hstx⟩, hk3⟩ := wPlain_ok gl st2 (.agg w.cells) w.l (Ww.wv hwo _) (by have := hws.1; omega) (by have := hws.2.1; omega)
    have hc3 := ihCall_W hc3
    repeat refine Does.seq ?_
    refine Does.region ?_
    refine Oks.cont (Q := fun fr st' => AtSt st3 st' ∧ fr.ds = [] ∧ fr.gl = gl ∧ Fr.at fr 1 = .ptr id1 0 ∧ Fr.at fr 3 = .str s ∧ Fr.at fr 4 = .bool (okP w.l && !decide (w.l.length = 0))) ?r5 ?t5
    case r5 => as_aux_lemma =>
      generalize w.cells = wc at hld hc3 i1
      generalize (okP w.l && !decide (w.l.length = 0)) = pl at hc3
      simp [h1, f3, l32, i1, hld, hg, hds, vcall_callable hk26, hc3]
      exact rfl
    case t5 => as_aux_lemma =>
    clear hds hg h1 h45 hc3
    rintro fr st' ⟨hst', hds, hg, h1, h3, h4⟩
    rw [show st' = st3 from hst']
    clear hst'
    simp only [andThen]
    have hk13 := hk12.trans hk3
    have hct2 : id1 < st2.ctr := Nat.lt_of_lt_of_le hct hk2.ctr
    have b3 : st3.box.get id1 = some (.cells [.int .u8 (k : Int), .int .i64 a, .str nm, wv, kv] 25 true (some 0)) := by rw [hk3.box _ hct2]; exact b2
    have l33 := vload_of (P := Try.prog) (off := 3) sa22 sz22 b3 rfl
    have hld3 := load31 w rr st3
    obtain ⟨v4, st4, hc4, ⟨s4, y4, a4, rfl, oy4⟩, hk4⟩ := wAssign_ok gl st3 (.agg w.cells) w.l (Ww.wv hwo _) (by have := hws.1; omega) (fun p hp => by have := hpts p hp; omega)
    have hc4 := ihCall_W hc4
    repeat refine Does.seq ?_
    refine Does.region ?_
    refine Oks.cont (Q := fun fr st' => Keep st4 st' ∧ fr.ds = [] ∧ fr.gl = gl ∧ Fr.at fr 3 = .str s ∧ Fr.at fr 4 = .bool (okP w.l && !decide (w.l.length = 0)) ∧ Fr.at fr 7 = .bool (asgOk w.l)) ?r6 ?t6
    case r6 => as_aux_lemma =>
      generalize w.cells = wc at hld3 hc4 i1
      generalize (okP w.l && !decide (w.l.length = 0)) = pl at h4
      generalize asgOk w.l = ao at hc4
      have hnk := newWord_keep st4 .nils 0
      have hnb := newWord_box st4 .nils 0
      have hs4 := store_all (P := Try.prog) (st := newWord st4 .nils 0) (l := [y4, .int .i64 a4]) z31 hnb rfl rfl (by simp [oy4, oi])
      have on : oneC .nils = true := rfl
      have hkk : Keep st4 { newWord st4 .nils 0 with box := (newWord st4 .nils 0).box.put st4.ctr (.cells [y4, .int .i64 a4] 31 true (some 0)) } := Keep.put hnk (Nat.le_refl _) _
      have hs4' : vstore Try.prog { ctr := st4.ctr + 1, box := st4.box.put st4.ctr (.cells [.nils, .int .i64 0] 31 true (some 0)) } 31 (.ptr st4.ctr 0) (.agg [y4, .int .i64 a4]) = some { newWord st4 .nils 0 with box := (newWord st4 .nils 0).box.put st4.ctr (.cells [y4, .int .i64 a4] 31 true (some 0)) } := hs4
      revert hkk hs4'
      generalize ({ newWord st4 .nils 0 with box := (newWord st4 .nils 0).box.put st4.ctr (.cells [y4, .int .i64 a4] 31 true (some 0)) } : St) = st5
      intro hkk hs4'
      simp [h1, h3, h4, f3, l33, i1, hld3, hg, hds, vcall_callable hk27, hc4, valloc, zs31, V.cells, on, oi, mkRef, vact, hs4']
      exact hkk
    case t6 => as_aux_lemma =>
    clear hds hg h1 h3 h4 hc4
    rintro fr st5 ⟨hk5, hds, hg, h3, h4, h7⟩
    simp only [andThen]
    have hk15 := (hk13.trans hk4).trans hk5
    obtain ⟨v6, st6, hc6, rfl, hk6⟩ := wReserved gl st5 s
    have hc6 := ihCall_W hc6
    repeat refine Does.seq ?_
    refine Does.region ?_
    rw [show plainRes w.l = (okP w.l && !decide (w.l.length = 0) && decide (textP w.l ∈ resL)) from rfl]
    generalize asgOk w.l = ao at h7
    generalize decide (w.l.length = 0) = lz at h4
    cases hop : okP w.l with
    | false =>
      rw [hop] at h4
      cases ao <;> simp [h3, h4, h7, hg] <;> refine Does.ret ?_ <;> simp [hds] <;> exact hk15
    | true =>
      rw [hstx hop] at hc6
      rw [hop] at h4
      generalize decide (textP w.l ∈ resL) = rs at hc6
      cases lz with
      | true => cases ao <;> simp [h3, h4, h7, hg] <;> refine Does.ret ?_ <;> simp [hds] <;> exact hk15
      | false =>
        cases rs <;> cases ao <;> simp [h3, h4, h7, hg, vcall_callable hk28, hc6] <;> refine Does.ret ?_ <;> simp [hds] <;> exact hk15.trans hk6
  · rw [if_neg hz]
    rw [decide_eq_false hz] at hemp
    simp [f2, l2, vbin_sneq, hemp]
    repeat refine Does.seq ?_
    refine Does.condT (by simp) ?_
    repeat refine Does.seq ?_
    have hc18 := ihCall_W (wName gl { ctr := st1.ctr + 20, box := st1.box } nm (by omega))
    generalize nameL nm.toList = nl at hc18
    have e1 : ∀ kk, vbin Try.prog kk .eql 3 (.int .i64 (ws.length : Int)) (.int .i64 1) = some (.bool (decide (ws.length = 1))) := fun kk => vI_eql rfl
    have hkt := hk1.tick 20
    have l2' := vload_of (P := Try.prog) (st := { ctr := st1.ctr + 20, box := st1.box }) (off := 2) sa9 sz9 b1 rfl
    have l3' := vload_of (P := Try.prog) (st := { ctr := st1.ctr + 20, box := st1.box }) (off := 3) sa22 sz22 b1 rfl
    generalize hD : decide (ws.length = 1) = D at e1
    refine Does.draw (b := [0, 1, 3, 7, 15, 31, 63, 127, 255, 511, 1023, 2047, 1023, 5119, 13311, 29695, 65535, 131071, 262143, 524287]) (l := [0, 1, 2, 3, 4, 5, 6, 7, 8, 9, 10, 11, 12, 13, 14, 15, 16, 17, 18, 19]) (by kernel_rfl) (by kernel_rfl) (by kernel_rfl) ?_
    have vx := veq_self wv (by omega)
    cases nl with
    | false =>
      simp [sameIn, f2, l2', vcall_callable hk18, hc18, veq_str]
      refine Does.ret ?_
      simp
      exact hkt
    | true =>
      cases D with
      | false =>
        simp [sameIn, f2, f3, l2', l3', vcall_callable hk18, hc18, veq_str, vx, lx, e1]
        refine Does.ret ?_
        simp
        exact hkt
      | true =>
        obtain ⟨w, rfl⟩ : ∃ w, ws = [w] := by
          match ws, hD with
          | [w], _ => exact ⟨w, rfl⟩
        have hwo := hok w (by simp)
        have e1' : ∀ kk, vbin Try.prog kk .eql 3 (.int .i64 1) (.int .i64 1) = some (.bool true) := e1
        have lx' : vlen Try.prog 22 wv = some (.int .i64 1) := lx
        have hws := hs w (by simp)
        obtain ⟨r, g1⟩ := hw.get (z := 2) (fun _ _ => rfl) Try.underlying22 z31 (show 0 < [w].length by simp)
        have i1 : vindexAddr Try.prog 22 wv (.int .i64 0) = some (.cp (w.cells ++ r)) := g1 .i64
        have hld := load31 w r { ctr := st1.ctr + 20, box := st1.box }
        have hpts := Ww.small_part hws
        obtain ⟨v2, st2, hc2, hv2, hk2⟩ := assigned_ok gl { ctr := st1.ctr + 20, box := st1.box } nm (.agg w.cells) w.l (Ww.wv hwo _) (by have := hws.1; omega) (by omega) (fun p hp => by have := hpts p hp; omega)
        have hc2 := ihCall_W hc2
        obtain ⟨v3, st3, hc3, rfl, hk3⟩ := wMay_ok gl hh st2 v2 (asgW nm w.l) hv2 (by have := asgW_len nm w.l; have := hws.1; omega) (fun p hp => by have := asgW_text (by omega) (fun p hp => hpts p hp) p hp; omega)
        have hc3 := ihCall_W hc3
        have vw : veq 1000000000 (.agg w.cells) (.agg w.cells) = true := veq_self _ (by have := hws.2.2; simp only [Ww.cells, vsz, vszs]; omega)
        rw [show headW [w] = w.l from rfl]
        generalize mayW ((asgW nm w.l).map Wp.key) = res at hc3
        generalize w.cells = wc at hld hc2 i1 vw
        simp [sameIn, f2, f3, l2', l3', vcall_callable hk18, hc18, veq_str, vx, lx', e1', i1, hld, vw, vcall_callable hk25, hc2, vcall_callable hk24, hc3]
        refine Does.ret ?_
        simp
        exact (hkt.trans hk2).trans hk3
end Go.Vm
