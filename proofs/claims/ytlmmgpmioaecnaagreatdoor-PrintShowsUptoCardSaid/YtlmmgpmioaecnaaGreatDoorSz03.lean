/- Does a word assign? -/
import Derived.Test.YtlmmgpmioaecnaaGreatDoorSz02
namespace Go.Vm
open Go Go.Proofs Go.Sy
set_option maxRecDepth 100000
attribute [local simp] Oks J8 Jj Jo vop Js Jy ev evs toV andThen inBlock Jn Fr.dsTo Fr.glTo Fr.toNone Jk Jl Jm J6 Jc Jz Jw V.undef JU J9 Qk
def JcV (t : List UInt8) : Bool := t.elem 61 && QR (t.takeWhile (· ≠ 61))
def Jax : List Wp → Bool
 | [] => true
 | p :: _ => p.v || p.q
def Jdr : List Wp → Bool
 | [] => true
 | p :: _ => p.v
def Ja9 : List Wp → Bool
 | [] => false
 | p :: _ => !p.v && !p.q && JcV p.t.toList
def Jpc (ok : Bool) (v : V) : Prop := ∃ s y b, v = .tup [.str s, .agg [y, .int .i64 b], .bool ok] ∧ Ju y = true
def AFr (gl : Gl) (id1 : Nat) (fr : Fr) : Prop := fr.ds = [] ∧ fr.gl = gl ∧ Fr.at fr 1 = .ptr id1 0 ∧ Fr.at fr 3 = .ptr (id1 + 1) 0
def AQ (gl : Gl) (id1 : Nat) (st1 : St) (k : Nat) (b : Bool) (e : AE) (fr : Fr) (st' : St) : Prop := e = AE.normal ∧ Jad st1 st' ∧ AFr gl id1 fr ∧ Fr.at fr k = .bool b
theorem Jhc : JbO Tryz.prog 41 [] = some (.agg [.nils, .int .i64 0]) := by kernel_rfl
theorem Ji6 {s : S} {v : V} (h : Jof s (S.ofList [61]) v) : ∃ a b ok, v = .tup [.str a, .str b, .bool ok] ∧ a.n ≤ s.n ∧ JcV s.toList = (ok && QR a.toList) := by
 obtain ⟨a, b, ok, rfl, h⟩ := h
 have h61 : ((S.ofList [61]).at 0).toUInt8 = 61 := by decide
 rw [h61] at h
 rcases h with ⟨rfl, ha, hs⟩ | ⟨rfl, hs, hle⟩
 ·refine ⟨a, b, true, rfl, ?_, ?_⟩
  ·have := congrArg List.length hs
   simp at this; omega
  ·unfold JcV
   rw [← ha, show s.toList.elem 61 = true from by rw [List.elem_eq_mem, hs]; simp]
 ·refine ⟨a, b, false, rfl, hle, ?_⟩
  unfold JcV
  rw [show s.toList.elem 61 = false from by rw [List.elem_eq_mem, decide_eq_false hs]]
  rfl
def YQ (gl : Gl) (id1 : Nat) (s1 : S) (st6 : St) (e : AE) (fr : Fr) (st' : St) : Prop := e = AE.normal ∧ Jad st6 st' ∧ AFr gl id1 fr ∧ Fr.at fr 5 = .str s1 ∧ ∃ y l', Fr.at fr 8 = y ∧ Vp st' y l'
theorem Jme {st : St} {z : V} {l : List Wp} (h : Vp st z l) (a : Int) : JbO Tryz.prog 41 [(0, z), (1, .int .i64 a)] = some (.agg [z, .int .i64 a]) := by
 cases h <;> kernel_rfl
theorem sa3 : QO Tryz.prog 3 = some false := by kernel_rfl
theorem sz3 : JR Tryz.prog 3 = some 1 := by kernel_rfl
variable [Memo] [NY]
set_option maxHeartbeats 1000000 in
theorem Ji7 (gl : Gl) (st : St) (w : V) (l : List Wp) (hx : Wv st w l) (hl : l.length < 1000000) (hs : ∀ p ∈ l, p.t.n < 4000000000000000000) :
  ∃ v st', W Tryz.prog (.call gl 84 [w]) st = .call (.val v st') ∧ Jpc (Ja9 l) v ∧ Keep st st' := by
 obtain ⟨x, a, rfl, hx⟩ := hx
 have hk39 : Jg Tryz.prog 104 = true := by kernel_rfl
 have hk40 : Jg Tryz.prog 105 = true := by kernel_rfl
 have hk41 : Jg Tryz.prog 106 = true := by kernel_rfl
 have ox := hx.one
 have oi : ∀ k n, Ju (.int k n) = true := fun _ _ => rfl
 have lx := hx.len
 have on : Ju .nils = true := rfl
 refine J3 (NY.no _ rfl rfl rfl _ _) Tryz.func84 rfl (by kernel_rfl) ?_
 repeat refine Does.seq ?_
 refine Does.region ?_
 refine Oks.cont (Q := fun fr st' => st' = Qd st x a ∧ AFr gl st.ctr fr) ?r0 ?rest
 case r0 =>
  simp [Jv, V.cells, ox, oi, JM, JkW, on]
  exact ⟨rfl, by simp, by simp, by simp, by simp⟩
 case rest =>
 have hk1 : Keep st (Qd st x a) := ((Keep.refl st).new _).new _
 have b3 : (Qd st x a).box.get st.ctr = some (.cells [x, .int .i64 a] 41 true (some 0)) := by unfold Qd; rw [Tr.get_put, if_neg (by omega), Tr.get_put, if_pos rfl]
 have b4 : (Qd st x a).box.get (st.ctr + 1) = some (.cells [.nils, .int .i64 0] 41 true (some 0)) := by unfold Qd; rw [Tr.get_put, if_pos rfl]
 have hct : st.ctr + 1 < (Qd st x a).ctr := Nat.lt_succ_self _
 revert hk1 b3 b4 hct
 generalize Qd st x a = st1
 have hcs : st.ctr ≤ st.ctr := Nat.le_refl _
 generalize hid : st.ctr = id1
 intro hk1 b3 b4 hct
 rintro fr st' ⟨hst', hds, hg, h1, h3⟩
 rw [hst']
 clear hst'
 have f1 := wf0 id1
 have hx1 := hx.keep hk1
 have l1 := Jf (P := Tryz.prog) (off := 0) Jcn Jca b3 rfl
 simp only [andThen]
 repeat refine Does.seq ?_
 refine Does.mono (Q := AQ gl id1 st1 26 (Jax l)) ?r1 ?t1
 case r1 => as_aux_lemma =>
  refine Does.region ?_
  refine Oks.cont (Q := fun fr st' => Jad st1 st' ∧ AFr gl id1 fr ∧ Fr.at fr 26 = .bool (Jax l)) ?_ (fun fr st' h => ⟨rfl, h.1, h.2⟩)
  have e0 : ∀ kk, Je Tryz.prog kk .eql 3 (.int .i64 (l.length : Int)) (.int .i64 0) = some (.bool (decide (l.length = 0))) := fun kk => JE rfl
  refine Oks.cut 12 (fun fr st' => Jad st1 st' ∧ AFr gl id1 fr ∧ Fr.at fr 20 = .bool (Jdr l)) ?c1 ?c2
  case c1 => as_aux_lemma =>
   simp only [List.take]
   cases l with
   | nil =>
    have e1 : ∀ kk, Je Tryz.prog kk .eql 3 (.int .i64 0) (.int .i64 0) = some (.bool true) := e0
    have lx' : QU Tryz.prog 39 x = some (.int .i64 0) := lx
    simp [h1, f1, l1, lx', e1, Jdr]
    exact ⟨rfl, by simp [hds], by simp [hg], by simp [h1], by simp [h3]⟩
   | cons p r =>
    rw [decide_eq_false (by simp)] at e0
    obtain ⟨pa, g3, g4⟩ := hx1.get (show 0 < (p :: r).length by simp)
    rw [show (p :: r).getD 0 default = p from rfl] at g4
    obtain ⟨_, ⟨p0, m0, n0⟩, ⟨p1, m1, n1⟩, ⟨p2, m2, n2⟩⟩ := g4.loads
    have i3 : Jd Tryz.prog 39 x (.int .i64 0) = some pa := g3 .i64
    generalize (p :: r).length = ln at e0 lx
    simp [h1, f1, l1, lx, e0, i3, m0, n0, Jdr]
    exact ⟨rfl, by simp [hds], by simp [hg], by simp [h1], by simp [h3]⟩
  case c2 => as_aux_lemma =>
   clear hds hg h1 h3
   rintro fr st' ⟨hst', ⟨hds, hg, h1, h3⟩, h20⟩
   rw [show st' = st1 from hst']
   clear hst'
   simp only [List.drop]
   cases l with
   | nil =>
    simp only [Jdr] at h20
    simp [h20, Jax]
    exact ⟨rfl, by simp [hds], by simp [hg], by simp [h1], by simp [h3]⟩
   | cons p r =>
    obtain ⟨pa, g3, g4⟩ := hx1.get (show 0 < (p :: r).length by simp)
    rw [show (p :: r).getD 0 default = p from rfl] at g4
    obtain ⟨_, ⟨p0, m0, n0⟩, ⟨p1, m1, n1⟩, ⟨p2, m2, n2⟩⟩ := g4.loads
    have i3 : Jd Tryz.prog 39 x (.int .i64 0) = some pa := g3 .i64
    simp only [Jax, Jdr] at h20 ⊢
    generalize p.v = vv at h20
    cases vv with
    | true => simp [h20]; exact ⟨rfl, by simp [hds], by simp [hg], by simp [h1], by simp [h3]⟩
    | false => simp [h20, h1, f1, l1, i3, m2, n2]; exact ⟨rfl, by simp [hds], by simp [hg], by simp [h1], by simp [h3]⟩
 case t1 => as_aux_lemma =>
 clear hds hg h1 h3
 rintro e fr st' ⟨rfl, hst', ⟨hds, hg, h1, h3⟩, h26⟩
 rw [show st' = st1 from hst']
 clear hst'
 simp only [andThen]
 repeat refine Does.seq ?_
 cases hhb : Jax l with
 | true =>
  have hno : Ja9 l = false := by
   cases l with
   | nil => rfl
   | cons p r =>
    simp only [Jax] at hhb
    simp only [Ja9]
    cases hv : p.v <;> cases hq : p.q <;> simp_all
  rw [hno]
  rw [hhb] at h26
  refine Does.condT (by simp [h26]) ?_
  repeat refine Does.seq ?_
  refine Does.region ?_
  have hs4 := QK (P := Tryz.prog) (l := [.nils, .int .i64 0]) z31 b4 rfl rfl (by simp [on, oi])
  have hld := JbE (st := { st1 with box := st1.box.put (id1 + 1) (.cells [.nils, .int .i64 0] 41 true (some 0)) }) (id := id1 + 1) (x := .nils) (a := 0) (e := 41) (fl := true) (fz := some 0) (by rw [Tr.get_put, if_pos rfl])
  have hk6 : Keep st { st1 with box := st1.box.put (id1 + 1) (.cells [.nils, .int .i64 0] 41 true (some 0)) } := Keep.put hk1 (by omega) _
  simp [h3, Jx, Jhc, Qe, hs4]
  refine Does.ret ?_
  simp [hds, h3, hld]
  exact ⟨⟨_, _, _, rfl, rfl⟩, hk6⟩
 | false =>
  rw [hhb] at h26
  refine Does.condF (by simp [h26]) ?_
  refine Does.skip ?_
  simp only [andThen]
  cases l with
  | nil => cases hhb
  | cons p r =>
  have hok : Ja9 (p :: r) = JcV p.t.toList := by
   simp only [Jax] at hhb
   simp only [Ja9]
   cases hv : p.v <;> cases hq : p.q <;> simp_all
  rw [hok]
  obtain ⟨pa, g3, g4⟩ := hx1.get (show 0 < (p :: r).length by simp)
  rw [show (p :: r).getD 0 default = p from rfl] at g4
  obtain ⟨_, _, ⟨p1, m1, n1⟩, _⟩ := g4.loads
  have i3 : Jd Tryz.prog 39 x (.int .i64 0) = some pa := g3 .i64
  obtain ⟨v, st2, hc, hcut, hk2⟩ := Jng gl st1 p.t (S.ofList [61]) rfl (hs p (by simp))
  have hc := Jh hc
  obtain ⟨s1, s2, ok, rfl, hsn, heq⟩ := Ji6 hcut
  rw [heq]
  have hpn := hs p (by simp)
  clear heq hok
  repeat refine Does.seq ?_
  refine Does.region ?_
  refine Oks.cont (Q := fun fr st' => Jad st2 st' ∧ AFr gl id1 fr ∧ Fr.at fr 5 = .str s1 ∧ Fr.at fr 6 = .str s2 ∧ Fr.at fr 7 = .bool ok) ?r3 ?t3
  case r3 => as_aux_lemma =>
   simp [h1, f1, l1, i3, m1, n1, hg, Ja hk39, hc]
   exact ⟨rfl, by simp [hds], by simp [hg], by simp [h1], by simp [h3]⟩
  case t3 => as_aux_lemma =>
  clear hds hg h1 h3 h26
  rintro fr st' ⟨hst', ⟨hds, hg, h1, h3⟩, h5, h6, h7⟩
  rw [show st' = st2 from hst']
  clear hst'
  simp only [andThen]
  repeat refine Does.seq ?_
  refine Does.region ?_
  obtain ⟨v4, st4, hc4, ⟨n, rfl, hn, hlead⟩, rfl⟩ := JjW gl st2 s1 (by omega)
  have hc4 := Jh hc4
  have vl9 : QU Tryz.prog 9 (.str s1) = some (.int .i64 ((s1.n : Nat) : Int)) := QC rfl
  have hemp := QH s1
  have hnl : QR s1.toList = (!decide (s1.n = 0) && decide (n = s1.n)) := by
   by_cases h0 : s1.n = 0
   ·rw [JeN h0]; simp [h0]
   ·rw [← hlead (by omega)]; simp [h0]
  rw [hnl]
  have ene : ∀ kk, Je Tryz.prog kk .neq 3 (.int .i64 (n : Int)) (.int .i64 (s1.n : Int)) = some (.bool (!decide (n = s1.n))) := fun kk => Jdz rfl
  generalize decide (s1.n = 0) = bz at hemp
  generalize decide (n = s1.n) = bn at ene
  refine Oks.cont (Q := fun fr st' => Jad st4 st' ∧ AFr gl id1 fr ∧ Fr.at fr 6 = .str s2 ∧ Fr.at fr 5 = .str s1 ∧ Fr.at fr 50 = .bool (!(ok && (!bz && bn)))) ?r4 ?t4
  case r4 => as_aux_lemma =>
   cases ok with
   | false => simp [h5, h6, h7]; exact ⟨rfl, by simp [hds], by simp [hg], by simp [h1], by simp [h3]⟩
   | true =>
    cases bz with
    | true => simp [h5, h6, h7, Ji, hemp]; exact ⟨rfl, by simp [hds], by simp [hg], by simp [h1], by simp [h3]⟩
    | false =>
     simp [h5, h6, h7, hg, Ji, hemp, Ja hk40, hc4, vl9, ene]; exact ⟨rfl, by simp [hds], by simp [hg], by simp [h1], by simp [h3]⟩
  case t4 => as_aux_lemma =>
  clear hds hg h1 h3 h5 h6 h7
  rintro fr st' ⟨hst', ⟨hds, hg, h1, h3⟩, h6, h5, h50⟩
  rw [show st' = st4 from hst']
  clear hst' hemp ene hnl hlead
  have hkk := hk1.trans hk2
  have b4' : st4.box.get (id1 + 1) = some (.cells [.nils, .int .i64 0] 41 true (some 0)) := by rw [hk2.box _ hct]; exact b4
  have b3' : st4.box.get id1 = some (.cells [x, .int .i64 a] 41 true (some 0)) := by rw [hk2.box _ (by omega)]; exact b3
  simp only [andThen]
  repeat refine Does.seq ?_
  generalize (ok && (!bz && bn)) = yes at h50
  cases yes with
  | false =>
   refine Does.condT (by simp [h50]) ?_
   repeat refine Does.seq ?_
   refine Does.region ?_
   have hs4 := QK (P := Tryz.prog) (l := [.nils, .int .i64 0]) z31 b4' rfl rfl (by simp [on, oi])
   have hld := JbE (st := { st4 with box := st4.box.put (id1 + 1) (.cells [.nils, .int .i64 0] 41 true (some 0)) }) (id := id1 + 1) (x := .nils) (a := 0) (e := 41) (fl := true) (fz := some 0) (by rw [Tr.get_put, if_pos rfl])
   have hk6 : Keep st { st4 with box := st4.box.put (id1 + 1) (.cells [.nils, .int .i64 0] 41 true (some 0)) } := Keep.put hkk (by omega) _
   simp [h3, Jx, Jhc, Qe, hs4]
   refine Does.ret ?_
   simp [hds, h3, hld]
   exact ⟨⟨_, _, _, rfl, rfl⟩, hk6⟩
  | true =>
   refine Does.condF (by simp [h50]) ?_
   refine Does.skip ?_
   simp only [andThen]
   repeat refine Does.seq ?_
   refine Does.region ?_
   have l4 := Jf (P := Tryz.prog) (off := 0) Jcn Jca b3' rfl
   have hx4 := hx1.keep hk2
   obtain ⟨v5, st5, hc5, ho5, hk5⟩ := JlV gl st4 x (p :: r) hx4 hl
   have hc5 := Jh hc5
   refine Oks.cont (Q := fun fr st' => Jad st5 st' ∧ AFr gl id1 fr ∧ Fr.at fr 6 = .str s2 ∧ Fr.at fr 5 = .str s1 ∧ Fr.at fr 8 = v5) ?r6 ?t6
   case r6 => as_aux_lemma =>
    simp [h1, h5, h6, f1, l4, hg, Ja hk41, hc5]; exact ⟨rfl, by simp [hds], by simp [hg], by simp [h1], by simp [h3]⟩
   case t6 => as_aux_lemma =>
   clear hds hg h1 h3 h5 h6 h50
   rintro fr st' ⟨hst', ⟨hds, hg, h1, h3⟩, h6, h5, h8⟩
   rw [show st' = st5 from hst']
   clear hst'
   simp only [andThen]
   rcases ho5.at' with ⟨_, h⟩ | ⟨id, cap, fl, rfl, hb, hbid, hidl, hcap⟩
   ·cases h
   repeat refine Does.seq ?_
   refine Does.region ?_
   have hia := Jb9 (P := Tryz.prog) (t := 39) (e := 43) (id := id) (off := 0) (n := (p :: r).length) (z := 3) (i := 0) (cap := cap) (k := .i64) Tryz.underlying39 z33 (by simp)
   rw [show ((0 : Nat) : Int) = 0 from rfl, show 0 + 0 * 3 = 0 from rfl] at hia
   have hpg := pg1 id 0
   rw [show 0 + 1 = 1 from rfl] at hpg
   have hst := QB (P := Tryz.prog) (st := st5) (t := 9) (off := 1) (v := .str s2) sz9 hb (by rw [JaD]; simp; omega) rfl
   rw [show (Jaa (p :: r)).set 1 (.str s2) = Jaa (⟨p.v, s2, p.q⟩ :: r) from rfl] at hst
   have ho6 : OwnP st4.ctr { st5 with box := st5.box.put id (.cells (Jaa (⟨p.v, s2, p.q⟩ :: r)) 43 fl (some 0)) } (.ms id 0 (p :: r).length 3 cap) (⟨p.v, s2, p.q⟩ :: r) :=
    ⟨.inr ⟨id, cap, fl, rfl, by rw [Tr.get_put, if_pos rfl], hbid, hidl, hcap⟩⟩
   have hk6 : Keep st4 { st5 with box := st5.box.put id (.cells (Jaa (⟨p.v, s2, p.q⟩ :: r)) 43 fl (some 0)) } := Keep.put hk5 hbid _
   have hv6 := ho6.vp
   refine Oks.cont (Q := fun fr st' => st' = { st5 with box := st5.box.put id (.cells (Jaa (⟨p.v, s2, p.q⟩ :: r)) 43 fl (some 0)) } ∧ AFr gl id1 fr ∧ Fr.at fr 6 = .str s2 ∧ Fr.at fr 5 = .str s1 ∧ Fr.at fr 8 = .ms id 0 (p :: r).length 3 cap) ?r7 ?t7
   case r7 => as_aux_lemma =>
    generalize (p :: r).length = ln at h8 hia
    simp [h6, h8, hia, hpg, Qe, hst, h5]
    exact ⟨by simp [hds], by simp [hg], by simp [h1], by simp [h3]⟩
   case t7 => as_aux_lemma =>
   clear hds hg h1 h3 h5 h6 h8
   rintro fr st' ⟨hst', ⟨hds, hg, h1, h3⟩, h6, h5, h8⟩
   rw [hst']
   clear hst'
   revert hk6 hv6
   generalize ({ st5 with box := st5.box.put id (.cells (Jaa (⟨p.v, s2, p.q⟩ :: r)) 43 fl (some 0)) } : St) = st6
   intro hk6 hv6
   simp only [andThen]
   repeat refine Does.seq ?_
   refine Does.region ?_
   have hem := Jbi s2
   generalize s2.toList.isEmpty = em at hem
   generalize hy0 : V.ms id 0 (p :: r).length 3 cap = y0 at h8 hv6
   obtain ⟨y1, hy1, hy2⟩ := hv6.tail (lo := 1) (k := .i64) (by simp)
   rw [show ((1 : Nat) : Int) = 1 from rfl] at hy1
   refine Oks.cont (Q := fun fr st' => Jad st6 st' ∧ AFr gl id1 fr ∧ Fr.at fr 8 = y0 ∧ Fr.at fr 5 = .str s1 ∧ Fr.at fr 60 = .bool em) ?r8 ?t8
   case r8 => as_aux_lemma =>
    simp [h6, h5, h8, Ji, hem]; exact ⟨rfl, by simp [hds], by simp [hg], by simp [h1], by simp [h3]⟩
   case t8 => as_aux_lemma =>
   clear hds hg h1 h3 h5 h6 h8
   rintro fr st' ⟨hst', ⟨hds, hg, h1, h3⟩, h8, h5, h60⟩
   rw [show st' = st6 from hst']
   clear hst'
   simp only [andThen]
   repeat refine Does.seq ?_
   refine Does.mono (Q := YQ gl id1 s1 st6) ?c9 ?t9
   case c9 => as_aux_lemma =>
    cases em with
    | true =>
     refine Does.condT (by simp [h60]) ?_
     refine Does.region ?_
     simp [h8, hy1]
     exact ⟨rfl, rfl, ⟨by simp [hds], by simp [hg], by simp [h1], by simp [h3]⟩, by simp [h5], _, _, by simp, hy2⟩
    | false =>
     refine Does.condF (by simp [h60]) ?_
     refine Does.skip ?_
     exact ⟨rfl, rfl, ⟨by simp [hds], by simp [hg], by simp [h1], by simp [h3]⟩, by simp [h5], _, _, h8, hv6⟩
   case t9 => as_aux_lemma =>
   clear hds hg h1 h3 h5 h8 h60
   rintro e fr st' ⟨rfl, hst', ⟨hds, hg, h1, h3⟩, h5, y, l', h8, hy⟩
   rw [show st' = st6 from hst']
   clear hst'
   simp only [andThen]
   repeat refine Does.seq ?_
   refine Does.draw (b := [0, 0, 0, 4, 14, 1, 63, 127]) (l := [0, 1, 2, 3, 4, 5, 6, 7]) (by kernel_rfl) (by kernel_rfl) (by kernel_rfl) ?_
   have hk7 : Keep st { st6 with ctr := st6.ctr + 8 } := (hkk.trans hk6).tick 8
   have b3'' : st6.box.get id1 = some (.cells [x, .int .i64 a] 41 true (some 0)) := by rw [hk6.box _ (by have := hk2.ctr; omega)]; exact b3'
   have b4'' : st6.box.get (id1 + 1) = some (.cells [.nils, .int .i64 0] 41 true (some 0)) := by rw [hk6.box _ (by have := hk2.ctr; omega)]; exact b4'
   have la := Jf (P := Tryz.prog) (st := { ctr := st6.ctr + 8, box := st6.box }) (off := 1) sa3 sz3 b3'' rfl
   have f2 := wf1 id1
   have oy := hy.one
   have hbl := Jme hy a
   have hs4 := QK (P := Tryz.prog) (st := { ctr := st6.ctr + 8, box := st6.box }) (l := [y, .int .i64 a]) z31 b4'' rfl rfl (by simp [oy, oi])
   have hld := JbE (st := { ctr := st6.ctr + 8, box := st6.box.put (id1 + 1) (.cells [y, .int .i64 a] 41 true (some 0)) }) (id := id1 + 1) (x := y) (a := a) (e := 41) (fl := true) (fz := some 0) (by rw [Tr.get_put, if_pos rfl])
   have hk8 : Keep st { ctr := st6.ctr + 8, box := st6.box.put (id1 + 1) (.cells [y, .int .i64 a] 41 true (some 0)) } := Keep.put hk7 (by omega) _
   simp [JO, h1, h3, h5, h8, f2, la, Jx, hbl, Qe, hs4, J2]
   refine Does.ret ?_
   simp [hds, h3, hld]
   exact ⟨⟨_, _, _, rfl, oy⟩, hk8⟩
end Go.Vm
namespace Go.Vm
open Go Go.Proofs Go.Sy
set_option maxRecDepth 100000
attribute [local simp] Oks J8 Jj Jo vop Js Jy ev evs toV andThen inBlock Jn Fr.dsTo Fr.glTo Fr.toNone Jk Jl Jm J6 Jc Jz Jw V.undef JU J9 Qk
theorem JdZ : ∀ (l : List UInt8) (x : UInt8), x ∈ l.takeWhile (· ≠ 61) → x ≠ 61
 | [], x, h => by simp at h
 | b :: r, x, h => by
  by_cases hb : b = 61
  ·subst hb; simp at h
  ·rw [List.takeWhile_cons_of_pos (by simpa using hb)] at h
   rcases List.mem_cons.1 h with h | h
   ·rw [h]; exact hb
   ·exact JdZ r x h
theorem Jmf (s : S) : ∃ k, k = (s.toList.takeWhile (· ≠ 61)).length ∧ k ≤ s.n ∧ (∀ i, i < k → ¬ s.at i = 61) ∧ (k < s.n → s.at k = 61) ∧ JcV s.toList = (decide (k < s.n) && QR (s.cut 0 k).toList) := by
 refine ⟨_, rfl, ?_⟩
 have hpre : s.toList.takeWhile (· ≠ 61) = s.toList.take (s.toList.takeWhile (· ≠ 61)).length := List.prefix_iff_eq_take.1 (List.takeWhile_prefix _)
 have hlen : (s.toList.takeWhile (· ≠ 61)).length ≤ s.n := by
  have := (List.takeWhile_prefix (l := s.toList) (p := (· ≠ 61))).length_le
  rwa [S.len] at this
 have hcut : (s.cut 0 (s.toList.takeWhile (· ≠ 61)).length).toList = s.toList.takeWhile (· ≠ 61) := by
  rw [S.toList_cut s (Nat.zero_le _) hlen, List.drop_zero, Nat.sub_zero]
  exact hpre.symm
 have hnot : ∀ i, i < (s.toList.takeWhile (· ≠ 61)).length → ¬ s.at i = 61 := fun i hi h => by
  have h1 : (s.toList.takeWhile (· ≠ 61))[i]? = some (UInt8.ofNat (s.at i)) := by
   rw [hpre, List.getElem?_take, if_pos hi]
   exact s.toList_at (by omega)
  have h2 : UInt8.ofNat (s.at i) ∈ s.toList.takeWhile (· ≠ 61) := List.mem_of_getElem? h1
  have h3 := JdZ _ _ h2
  rw [h] at h3
  exact absurd rfl h3
 refine ⟨hlen, hnot, ?_, ?_⟩
 ·intro hk
  have hm : (61 : UInt8) ∈ s.toList := by
   refine Classical.byContradiction fun hn => ?_
   rw [Jb3 (l := s.toList) (p := fun x => decide (x ≠ 61)) (fun x hx => decide_eq_true (fun h : x = 61 => hn (by rw [← h]; exact hx))), S.len] at hk
   omega
  have hd := Jbn hm
  have h1 := s.toList_at hk
  rw [hd] at h1
  rw [List.getElem?_append_right (by rw [← hd]; exact Nat.le_refl _)] at h1
  rw [← hd, Nat.sub_self, List.getElem?_cons_zero] at h1
  exact (JbA (s.at_lt _) (by decide)).1 (Option.some.inj h1).symm
 ·unfold JcV
  rw [hcut]
  congr 1
  rw [List.elem_eq_mem, Bool.eq_iff_iff, decide_eq_true_iff, decide_eq_true_iff]
  constructor
  ·intro hm
   have := congrArg List.length (Jbn hm)
   simp only [List.length_append, List.length_cons, S.len] at this
   omega
  ·intro hk
   refine Classical.byContradiction fun hn => ?_
   rw [Jb3 (l := s.toList) (p := fun x => decide (x ≠ 61)) (fun x hx => decide_eq_true (fun h : x = 61 => hn (by rw [← h]; exact hx))), S.len] at hk
   omega
def ZQ (gl : Gl) (id1 : Nat) (t : S) (k : Nat) (st1 : St) (e : AE) (fr : Fr) (st' : St) : Prop := e = AE.normal ∧ AFr gl id1 fr ∧ Fr.at fr 5 = .str t ∧ Fr.at fr 6 = .int .i64 (k : Int) ∧ Keep st1 st' ∧ st1.ctr ≤ st'.ctr ∧ ∃ z l5, Fr.at fr 7 = z ∧ OwnP st1.ctr st' z l5 ∧ l5.length ≤ 1
variable [Memo] [NY]
set_option maxHeartbeats 1000000 in
theorem Ji8 (gl : Gl) (st : St) (w : V) (l : List Wp) (hx : Wv st w l) (hl : l.length < 1000000) (hs : ∀ p ∈ l, p.t.n < 4000000000000000000) :
    ∃ v st', W Tryz.prog (.call gl 93 [w]) st = .call (.val v st') ∧ Jpc (Ja9 l) v ∧ Keep st st' := by
  obtain ⟨x, a, rfl, hx⟩ := hx
  have hk44 : Jg Tryz.prog 114 = true := by kernel_rfl
  have ox := hx.one
  have oi : ∀ k n, Ju (.int k n) = true := fun _ _ => rfl
  have lx := hx.len
  have on : Ju .nils = true := rfl
  refine J3 (NY.no _ rfl rfl rfl _ _) Tryz.func93 rfl (by kernel_rfl) ?_
  repeat refine Does.seq ?_
  refine Does.region ?_
  refine Oks.cont (Q := fun fr st' => st' = Qd st x a ∧ AFr gl st.ctr fr) ?r0 ?rest
  case r0 =>
    simp [Jv, V.cells, ox, oi, JM, JkW, on]
    exact ⟨rfl, by simp, by simp, by simp, by simp⟩
  case rest =>
  have hk1 : Keep st (Qd st x a) := ((Keep.refl st).new _).new _
  have b3 : (Qd st x a).box.get st.ctr = some (.cells [x, .int .i64 a] 41 true (some 0)) := by unfold Qd; rw [Tr.get_put, if_neg (by omega), Tr.get_put, if_pos rfl]
  have b4 : (Qd st x a).box.get (st.ctr + 1) = some (.cells [.nils, .int .i64 0] 41 true (some 0)) := by unfold Qd; rw [Tr.get_put, if_pos rfl]
  have hct : st.ctr + 1 < (Qd st x a).ctr := Nat.lt_succ_self _
  revert hk1 b3 b4 hct
  generalize Qd st x a = st1
  have hcs : st.ctr ≤ st.ctr := Nat.le_refl _
  generalize hid : st.ctr = id1
  intro hk1 b3 b4 hct
  rintro fr st' ⟨hst', hds, hg, h1, h3⟩
  rw [hst']
  clear hst'
  have f1 := wf0 id1
  have hx1 := hx.keep hk1
  have l1 := Jf (P := Tryz.prog) (off := 0) Jcn Jca b3 rfl
  simp only [andThen]
  repeat refine Does.seq ?_
  refine Does.mono (Q := AQ gl id1 st1 25 (Jax l)) ?r1 ?t1
  case r1 => as_aux_lemma =>
    refine Does.region ?_
    refine Oks.cont (Q := fun fr st' => Jad st1 st' ∧ AFr gl id1 fr ∧ Fr.at fr 25 = .bool (Jax l)) ?_ (fun fr st' h => ⟨rfl, h.1, h.2⟩)
    have e0 : ∀ kk, Je Tryz.prog kk .eql 3 (.int .i64 (l.length : Int)) (.int .i64 0) = some (.bool (decide (l.length = 0))) := fun kk => JE rfl
    refine Oks.cut 12 (fun fr st' => Jad st1 st' ∧ AFr gl id1 fr ∧ Fr.at fr 19 = .bool (Jdr l)) ?c1 ?c2
    case c1 => as_aux_lemma =>
      simp only [List.take]
      cases l with
      | nil =>
        have e1 : ∀ kk, Je Tryz.prog kk .eql 3 (.int .i64 0) (.int .i64 0) = some (.bool true) := e0
        have lx' : QU Tryz.prog 39 x = some (.int .i64 0) := lx
        simp [h1, f1, l1, lx', e1, Jdr]
        exact ⟨rfl, by simp [hds], by simp [hg], by simp [h1], by simp [h3]⟩
      | cons p r =>
        rw [decide_eq_false (by simp)] at e0
        obtain ⟨pa, g3, g4⟩ := hx1.get (show 0 < (p :: r).length by simp)
        rw [show (p :: r).getD 0 default = p from rfl] at g4
        obtain ⟨_, ⟨p0, m0, n0⟩, ⟨p1, m1, n1⟩, ⟨p2, m2, n2⟩⟩ := g4.loads
        have i3 : Jd Tryz.prog 39 x (.int .i64 0) = some pa := g3 .i64
        generalize (p :: r).length = ln at e0 lx
        simp [h1, f1, l1, lx, e0, i3, m0, n0, Jdr]
        exact ⟨rfl, by simp [hds], by simp [hg], by simp [h1], by simp [h3]⟩
    case c2 => as_aux_lemma =>
      clear hds hg h1 h3
      rintro fr st' ⟨hst', ⟨hds, hg, h1, h3⟩, h19⟩
      rw [show st' = st1 from hst']
      clear hst'
      simp only [List.drop]
      cases l with
      | nil =>
        simp only [Jdr] at h19
        simp [h19, Jax]
        exact ⟨rfl, by simp [hds], by simp [hg], by simp [h1], by simp [h3]⟩
      | cons p r =>
        obtain ⟨pa, g3, g4⟩ := hx1.get (show 0 < (p :: r).length by simp)
        rw [show (p :: r).getD 0 default = p from rfl] at g4
        obtain ⟨_, ⟨p0, m0, n0⟩, ⟨p1, m1, n1⟩, ⟨p2, m2, n2⟩⟩ := g4.loads
        have i3 : Jd Tryz.prog 39 x (.int .i64 0) = some pa := g3 .i64
        simp only [Jax, Jdr] at h19 ⊢
        generalize p.v = vv at h19
        cases vv with
        | true => simp [h19]; exact ⟨rfl, by simp [hds], by simp [hg], by simp [h1], by simp [h3]⟩
        | false => simp [h19, h1, f1, l1, i3, m2, n2]; exact ⟨rfl, by simp [hds], by simp [hg], by simp [h1], by simp [h3]⟩
  case t1 => as_aux_lemma =>
  clear hds hg h1 h3
  rintro e fr st' ⟨rfl, hst', ⟨hds, hg, h1, h3⟩, h25⟩
  rw [show st' = st1 from hst']
  clear hst'
  simp only [andThen]
  repeat refine Does.seq ?_
  cases hhb : Jax l with
  | true =>
    have hno : Ja9 l = false := by
      cases l with
      | nil => rfl
      | cons p r =>
        simp only [Jax] at hhb
        simp only [Ja9]
        cases hv : p.v <;> cases hq : p.q <;> simp_all
    rw [hno]
    rw [hhb] at h25
    refine Does.condT (by simp [h25]) ?_
    repeat refine Does.seq ?_
    refine Does.region ?_
    have hs4 := QK (P := Tryz.prog) (l := [.nils, .int .i64 0]) z31 b4 rfl rfl (by simp [on, oi])
    have hld := JbE (st := { st1 with box := st1.box.put (id1 + 1) (.cells [.nils, .int .i64 0] 41 true (some 0)) }) (id := id1 + 1) (x := .nils) (a := 0) (e := 41) (fl := true) (fz := some 0) (by rw [Tr.get_put, if_pos rfl])
    have hk6 : Keep st { st1 with box := st1.box.put (id1 + 1) (.cells [.nils, .int .i64 0] 41 true (some 0)) } := Keep.put hk1 (by omega) _
    simp [h3, Jx, Jhc, Qe, hs4]
    refine Does.ret ?_
    simp [hds, h3, hld]
    exact ⟨⟨_, _, _, rfl, rfl⟩, hk6⟩
  | false =>
    rw [hhb] at h25
    refine Does.condF (by simp [h25]) ?_
    refine Does.skip ?_
    simp only [andThen]
    cases l with
    | nil => cases hhb
    | cons p r =>
    have hok : Ja9 (p :: r) = JcV p.t.toList := by
      simp only [Jax] at hhb
      simp only [Ja9]
      cases hv : p.v <;> cases hq : p.q <;> simp_all
    rw [hok]
    obtain ⟨pa, g3, g4⟩ := hx1.get (show 0 < (p :: r).length by simp)
    rw [show (p :: r).getD 0 default = p from rfl] at g4
    obtain ⟨_, _, ⟨p1, m1, n1⟩, _⟩ := g4.loads
    have i3 : Jd Tryz.prog 39 x (.int .i64 0) = some pa := g3 .i64
    have hpn := hs p (by simp)
    clear hok
    obtain ⟨k, hk, hkn, hbef, hat, heq⟩ := Jmf p.t
    rw [heq]
    clear heq hk
    repeat refine Does.seq ?_
    refine Does.region ?_
    refine Oks.cont (Q := fun fr st' => Jad st1 st' ∧ AFr gl id1 fr ∧ Fr.at fr 5 = .str p.t) ?r3 ?t3
    case r3 => as_aux_lemma =>
      simp [h1, f1, l1, i3, m1, n1]
      exact ⟨rfl, by simp [hds], by simp [hg], by simp [h1], by simp [h3]⟩
    case t3 => as_aux_lemma =>
    clear hds hg h1 h3 h25
    rintro fr st' ⟨hst', ⟨hds, hg, h1, h3⟩, h5⟩
    rw [show st' = st1 from hst']
    clear hst'
    simp only [andThen]
    repeat refine Does.seq ?_
    refine Does.region ?_
    simp
    repeat refine Does.seq ?_
    have vl9 : QU Tryz.prog 9 (.str p.t) = some (.int .i64 ((p.t.n : Nat) : Int)) := QC rfl
    refine Does.mono (Q := fun e fr st' => e = AE.normal ∧ Jad st1 st' ∧ AFr gl id1 fr ∧ Fr.at fr 5 = .str p.t ∧ Fr.at fr 6 = .int .i64 (k : Int)) ?loop ?tl
    case loop => as_aux_lemma =>
      refine Does.block (Does.up k (fun i fr st' => Jad st1 st' ∧ AFr gl id1 fr ∧ Fr.at fr 5 = .str p.t ∧ Fr.at fr 6 = .int .i64 (i : Int) ∧ i ≤ k) 0 ?init ?JH ?step)
      case init => exact ⟨rfl, ⟨by simp [hds], by simp [hg], by simp [h1], by simp [h3]⟩, by simp [h5], by simp, Nat.zero_le _⟩
      case JH => exact fun i fr st' h => h.2.2.2.2
      case step =>
        clear hds hg h1 h3 h5
        rintro i fr st' ⟨hst', ⟨hds, hg, h1, h3⟩, h5, h6, hi⟩
        rw [show st' = st1 from hst']
        clear hst'
        have elen : ∀ kk, Je Tryz.prog kk .lss 3 (.int .i64 (i : Int)) (.int .i64 (p.t.n : Int)) = some (.bool (decide (i < p.t.n))) := fun kk => QN rfl
        repeat refine Does.seq ?_
        refine Does.region ?_
        by_cases hik : i < k
        · rw [decide_eq_true (by omega)] at elen
          have vi9 : ∀ q, JbN Tryz.prog 9 (.str p.t) (.int q (i : Int)) = some (.int .u8 ((p.t.at i : Nat) : Int)) := fun q => JY rfl (by omega)
          have hb := hbef i hik
          have ene : ∀ kk, Je Tryz.prog kk .neq 5 (.int .u8 ((p.t.at i : Nat) : Int)) (.int .u8 61) = some (.bool true) := fun kk => by
            have := Jdz (P := Tryz.prog) (kk := kk) (T := 5) (q := .u8) (c := p.t.at i) (m := 61) (k := 61) rfl
            rw [decide_eq_false hb] at this
            exact this
          have w1 : IntKind.i64.wrap ((i : Int) + 1) = (i : Int) + 1 := Jp (by omega) (by omega)
          simp [h5, h6, vl9, elen, vi9, ene]
          repeat refine Does.seq ?_
          refine Does.condT (by simp) ?_
          refine Does.skip ?_
          simp
          refine Does.block ?_
          refine Does.region ?_
          simp [h6, Jq, w1]
          exact ⟨i + 1, by omega, rfl, ⟨by simp [hds], by simp [hg], by simp [h1], by simp [h3]⟩, by simp [h5], by simp, by omega⟩
        · have hik' : i = k := by omega
          subst hik'
          by_cases hin : i < p.t.n
          · rw [decide_eq_true hin] at elen
            have vi9 : ∀ q, JbN Tryz.prog 9 (.str p.t) (.int q (i : Int)) = some (.int .u8 ((p.t.at i : Nat) : Int)) := fun q => JY rfl hin
            rw [hat hin] at vi9
            have ene : ∀ kk, Je Tryz.prog kk .neq 5 (.int .u8 ((61 : Nat) : Int)) (.int .u8 61) = some (.bool false) := fun kk => by
              exact Jdz (P := Tryz.prog) (kk := kk) (T := 5) (q := .u8) (c := 61) (m := 61) (k := 61) rfl
            simp only [Int.cast_ofNat_Int] at ene vi9
            simp [h5, h6, vl9, elen, vi9, ene]
            repeat refine Does.seq ?_
            refine Does.condF (by simp) ?_
            refine Does.exit ?_
            simp only [andThen, inBlock, if_true]
            exact ⟨trivial, rfl, ⟨by simp [hds], by simp [hg], by simp [h1], by simp [h3]⟩, by simp [h5], by simp [h6]⟩
          · rw [decide_eq_false hin] at elen
            simp [h5, h6, vl9, elen]
            repeat refine Does.seq ?_
            refine Does.condF (by simp) ?_
            refine Does.exit ?_
            simp only [andThen, inBlock, if_true]
            exact ⟨trivial, rfl, ⟨by simp [hds], by simp [hg], by simp [h1], by simp [h3]⟩, by simp [h5], by simp [h6]⟩
    case tl => as_aux_lemma =>
    clear hds hg h1 h3 h5
    rintro e fr st' ⟨rfl, hst', ⟨hds, hg, h1, h3⟩, h5, h6⟩
    rw [show st' = st1 from hst']
    clear hst'
    simp only [andThen]
    repeat refine Does.seq ?_
    refine Does.region ?_
    have eeq : ∀ kk, Je Tryz.prog kk .eql 3 (.int .i64 (k : Int)) (.int .i64 (p.t.n : Int)) = some (.bool (decide (k = p.t.n))) := fun kk => JE rfl
    have hsl := Jei (P := Tryz.prog) Tryz.underlying9 (s := p.t) (hi := k) hkn (k' := .i64)
    have hcn := Jh (JhO gl st1 (p.t.cut 0 k) (by rw [JhJ]; omega))
    generalize QR (p.t.cut 0 k).toList = nl at hcn
    have hdk : decide (k < p.t.n) = !decide (k = p.t.n) := by
      by_cases h : k = p.t.n
      · simp [h]
      · have : k < p.t.n := by omega
        simp [h, this]
    rw [hdk]
    generalize hkz : decide (k = p.t.n) = kz at eeq
    refine Oks.cont (Q := fun fr st' => Jad st1 st' ∧ AFr gl id1 fr ∧ Fr.at fr 5 = .str p.t ∧ Fr.at fr 6 = .int .i64 (k : Int) ∧ Fr.at fr 54 = .bool (!(!kz && nl))) ?r7 ?t7
    case r7 => as_aux_lemma =>
      cases kz with
      | true => simp [h5, h6, vl9, eeq]; exact ⟨rfl, by simp [hds], by simp [hg], by simp [h1], by simp [h3]⟩
      | false => simp [h5, h6, vl9, eeq, hsl, hg, Ja hk44, hcn]; exact ⟨rfl, by simp [hds], by simp [hg], by simp [h1], by simp [h3]⟩
    case t7 => as_aux_lemma =>
    clear hds hg h1 h3 h5 h6
    rintro fr st' ⟨hst', ⟨hds, hg, h1, h3⟩, h5, h6, h54⟩
    rw [show st' = st1 from hst']
    clear hst'
    simp only [andThen]
    repeat refine Does.seq ?_
    cases hyes : (!kz && nl) with
    | false =>
      rw [hyes] at h54
      refine Does.condT (by simp [h54]) ?_
      repeat refine Does.seq ?_
      refine Does.region ?_
      have hs4 := QK (P := Tryz.prog) (l := [.nils, .int .i64 0]) z31 b4 rfl rfl (by simp [on, oi])
      have hld := JbE (st := { st1 with box := st1.box.put (id1 + 1) (.cells [.nils, .int .i64 0] 41 true (some 0)) }) (id := id1 + 1) (x := .nils) (a := 0) (e := 41) (fl := true) (fz := some 0) (by rw [Tr.get_put, if_pos rfl])
      have hk6 : Keep st { st1 with box := st1.box.put (id1 + 1) (.cells [.nils, .int .i64 0] 41 true (some 0)) } := Keep.put hk1 (by omega) _
      simp [h3, Jx, Jhc, Qe, hs4]
      refine Does.ret ?_
      simp [hds, h3, hld]
      exact ⟨⟨_, _, _, rfl, rfl⟩, hk6⟩
    | true =>
      rw [hyes] at h54
      have hklt : k < p.t.n := by
        cases kz with
        | true => simp at hyes
        | false => have : ¬ k = p.t.n := by simpa using hkz
                   omega
      refine Does.condF (by simp [h54]) ?_
      refine Does.skip ?_
      simp only [andThen]
      repeat refine Does.seq ?_
      refine Does.region ?_
      simp
      repeat refine Does.seq ?_
      refine Does.region ?_
      have w1 : IntKind.i64.wrap ((k : Int) + 1) = (k : Int) + 1 := Jp (by omega) (by omega)
      have e10 : ∀ kk, Je Tryz.prog kk .lss 3 (.int .i64 ((k : Int) + 1)) (.int .i64 (p.t.n : Int)) = some (.bool (decide (k + 1 < p.t.n))) := fun kk => QN (c := k + 1) (m := p.t.n) rfl
      refine Oks.cont (Q := fun fr st' => Jad st1 st' ∧ AFr gl id1 fr ∧ Fr.at fr 5 = .str p.t ∧ Fr.at fr 6 = .int .i64 (k : Int) ∧ Fr.at fr 7 = .nils ∧ Fr.at fr 60 = .bool (decide (k + 1 < p.t.n))) ?r10 ?t10
      case r10 => as_aux_lemma =>
        generalize decide (k + 1 < p.t.n) = z at e10
        simp [h5, h6, vl9, Jq, w1, e10]; exact ⟨rfl, by simp [hds], by simp [hg], by simp [h1], by simp [h3]⟩
      case t10 => as_aux_lemma =>
      clear hds hg h1 h3 h5 h6 h54
      rintro fr st' ⟨hst', ⟨hds, hg, h1, h3⟩, h5, h6, h7, h60⟩
      rw [show st' = st1 from hst']
      clear hst'
      simp only [andThen]
      repeat refine Does.seq ?_
      have hon : OwnP st1.ctr st1 .nils [] := ⟨.inl ⟨rfl, rfl⟩⟩
      refine Does.mono (Q := ZQ gl id1 p.t k st1) ?c11 ?t11
      case c11 => as_aux_lemma =>
        by_cases hk1n : k + 1 < p.t.n
        · rw [decide_eq_true hk1n] at h60
          refine Does.condT (by simp [h60]) ?_
          refine Does.region ?_
          have hsl2 : QA Tryz.prog 9 (.str p.t) (some (.int .i64 ((k : Int) + 1))) none = some (.str (p.t.cut (k + 1) p.t.n)) := Jda (P := Tryz.prog) Tryz.underlying9 (s := p.t) (lo := k + 1) (by omega) (k := .i64)
          generalize p.t.cut (k + 1) p.t.n = q at hsl2
          have hk2 := (Keep.refl st1).new (.cells [.bool false, .str q, .bool false] 43 true (some 0))
          have ho : OwnP st1.ctr { ctr := st1.ctr + 1, box := st1.box.put st1.ctr (.cells [.bool false, .str q, .bool false] 43 true (some 0)) } (.ms st1.ctr 0 1 3 (some 1)) [⟨false, q, false⟩] :=
            ⟨.inr ⟨st1.ctr, some 1, true, rfl, by rw [Tr.get_put, if_pos rfl]; rfl, Nat.le_refl _, Nat.lt_succ_self _, .inl rfl⟩⟩
          have hon2 : OwnP st1.ctr { ctr := st1.ctr + 1, box := st1.box.put st1.ctr (.cells [.bool false, .str q, .bool false] 43 true (some 0)) } .nils [] := ⟨.inl ⟨rfl, rfl⟩⟩
          obtain ⟨z, st4, ha, ho', hlow⟩ := hon2.app ho.vp (by simp) (Nat.le_succ _)
          have bs1 := Jom q
          have o3 : Ju (.bool false) = true := rfl
          have o4 : Ju (.str q) = true := rfl
          have hb33 := JlW q
          simp [h5, h6, h7, Jq, w1, hsl2, Jx, hb33, Jv, bs1, JM, o3, o4, Qe, ha]
          exact ⟨rfl, ⟨by simp [hds], by simp [hg], by simp [h1], by simp [h3]⟩, by simp [h5], by simp [h6], hlow.keep hk2 (Nat.le_refl _), Nat.le_trans (Nat.le_succ _) hlow.ctr, z, _, by simp, ho', by simp⟩
        · rw [decide_eq_false hk1n] at h60
          refine Does.condF (by simp [h60]) ?_
          refine Does.skip ?_
          exact ⟨rfl, ⟨by simp [hds], by simp [hg], by simp [h1], by simp [h3]⟩, by simp [h5], by simp [h6], .refl _, Nat.le_refl _, .nils, [], h7, hon, by simp⟩
      case t11 => as_aux_lemma =>
      clear hds hg h1 h3 h5 h6 h7 h60
      rintro e fr st5 ⟨rfl, ⟨hds, hg, h1, h3⟩, h5, h6, hk5, hc5, z, l5, h7, hz, hl5⟩
      simp only [andThen]
      repeat refine Does.seq ?_
      refine Does.region ?_
      obtain ⟨y1, hy1, hy2⟩ := (hx1.keep hk5).tail (lo := 1) (k := .i64) (by simp)
      rw [show ((1 : Nat) : Int) = 1 from rfl] at hy1
      obtain ⟨y, st6, ha, ho6, hlow⟩ := hz.app hy2 (by simp at hl ⊢; omega) hc5
      have hk6 : Keep st1 st6 := hlow.keep hk5 (Nat.le_refl _)
      have l5' := Jf (P := Tryz.prog) (off := 0) Jcn Jca (show st5.box.get id1 = _ by rw [hk5.box _ (by omega)]; exact b3) rfl
      refine Oks.cont (Q := fun fr st' => Jad st6 st' ∧ AFr gl id1 fr ∧ Fr.at fr 5 = .str p.t ∧ Fr.at fr 6 = .int .i64 (k : Int) ∧ Fr.at fr 7 = y) ?r12 ?t12
      case r12 => as_aux_lemma =>
        simp [h5, h6, h7, h1, f1, l5', hy1, Qe, ha]; exact ⟨rfl, by simp [hds], by simp [hg], by simp [h1], by simp [h3]⟩
      case t12 => as_aux_lemma =>
      clear hds hg h1 h3 h5 h6 h7
      rintro fr st' ⟨hst', ⟨hds, hg, h1, h3⟩, h5, h6, h8⟩
      rw [show st' = st6 from hst']
      clear hst'
      simp only [andThen]
      repeat refine Does.seq ?_
      refine Does.draw (b := [0, 0, 3, 0, 0, 16, 56, 7, 255, 511]) (l := [0, 1, 2, 3, 4, 5, 6, 7, 8, 9]) (by kernel_rfl) (by kernel_rfl) (by kernel_rfl) ?_
      have hk7 : Keep st { st6 with ctr := st6.ctr + 10 } := (hk1.trans hk6).tick 10
      have b3'' : st6.box.get id1 = some (.cells [x, .int .i64 a] 41 true (some 0)) := by rw [hk6.box _ (by omega)]; exact b3
      have b4'' : st6.box.get (id1 + 1) = some (.cells [.nils, .int .i64 0] 41 true (some 0)) := by rw [hk6.box _ (by omega)]; exact b4
      have la := Jf (P := Tryz.prog) (st := { ctr := st6.ctr + 10, box := st6.box }) (off := 1) sa3 sz3 b3'' rfl
      have f2 := wf1 id1
      have hy := ho6.vp
      have oy := hy.one
      have hbl := Jme hy a
      have hs4 := QK (P := Tryz.prog) (st := { ctr := st6.ctr + 10, box := st6.box }) (l := [y, .int .i64 a]) z31 b4'' rfl rfl (by simp [oy, oi])
      have hld := JbE (st := { ctr := st6.ctr + 10, box := st6.box.put (id1 + 1) (.cells [y, .int .i64 a] 41 true (some 0)) }) (id := id1 + 1) (x := y) (a := a) (e := 41) (fl := true) (fz := some 0) (by rw [Tr.get_put, if_pos rfl])
      have hk8 : Keep st { ctr := st6.ctr + 10, box := st6.box.put (id1 + 1) (.cells [y, .int .i64 a] 41 true (some 0)) } := Keep.put hk7 (by omega) _
      simp [JO, h1, h3, h5, h6, h8, hsl, f2, la, Jx, hbl, Qe, hs4, J2]
      refine Does.ret ?_
      simp [hds, h3, hld]
      exact ⟨⟨_, _, _, rfl, oy⟩, hk8⟩
end Go.Vm
namespace Go.Vm
open Go Go.Proofs Go.Sy
set_option maxRecDepth 100000
attribute [local simp] Oks J8 Jj Jo vop Js Jy ev evs toV andThen inBlock Jn Fr.dsTo Fr.glTo Fr.toNone Jk Jl Jm J6 Jc Jz Jw V.undef JU J9 Qk
inductive Row {α : Type} (f : α → List V) : V → List α → Prop
 | nils : Row f .nils []
 | sl (l : List α) (ex : Bool) : Row f (.sl l.length (l.flatMap f) ex) l
theorem Row.one {α : Type} {f : α → List V} {x : V} {l : List α} (h : Row f x l) : Ju x = true := by cases h <;> rfl
theorem Row.len {α : Type} {f : α → List V} {x : V} {l : List α} (h : Row f x l) {P : Program} {T e : TypeId} (hT : P.underlying T = some (.slice e)) : QU P T x = some (.int .i64 (l.length : Int)) := by
 cases h <;> simp [QU, hT]
theorem JgF {α : Type} {f : α → List V} {z : Nat} : ∀ (l : List α) (_ : ∀ a ∈ l, (f a).length = z) (i : Nat) (h : i < l.length), (l.flatMap f).drop (i * z) = f l[i] ++ (l.drop (i + 1)).flatMap f
 | [], _, i, h => by simp at h
 | a :: r, hz, 0, _ => by simp
 | a :: r, hz, i + 1, h => by
  have ha : (f a).length = z := hz a (by simp)
  rw [List.flatMap_cons, Nat.succ_mul, Nat.add_comm, ← List.drop_drop, show (f a ++ r.flatMap f).drop z = r.flatMap f from by rw [← ha]; simp, JgF r (fun b hb => hz b (by simp [hb])) i (by simpa using h)]
  simp
theorem Row.get {α : Type} {f : α → List V} {z : Nat} {x : V} {l : List α} (h : Row f x l) (hz : ∀ a ∈ l, (f a).length = z) {P : Program} {T e : TypeId} (hT : P.underlying T = some (.slice e)) (he : JR P e = some z) {i : Nat} (hi : i < l.length) :
  ∃ r, ∀ k, Jd P T x (.int k (i : Int)) = some (.cp (f l[i] ++ r)) := by
 have hb : Nat.blt i l.length = true := by rw [JaU]; exact decide_eq_true hi
 cases h with
 | nils => simp at hi
 | sl l ex => exact ⟨(l.drop (i + 1)).flatMap f, fun k => by simp only [Jd, hT, Qa, he, hb]; rw [JgF l hz i hi]⟩
structure Ww where
 x : V
 a : Int
 l : List Wp
def Ww.cells (w : Ww) : List V := [w.x, .int .i64 w.a]
def Ww.ok (w : Ww) : Prop := Row Wp.cells w.x w.l
theorem Ww.len2 (w : Ww) : w.cells.length = 2 := rfl
theorem Row.vp {x : V} {l : List Wp} (h : Row Wp.cells x l) (st : St) : Vp st x l := by
 cases h with
 | nils => exact .nils
 | sl l ex => exact .sl l ex
theorem Ww.wv {w : Ww} (h : w.ok) (st : St) : Wv st (.agg w.cells) w.l := ⟨w.x, w.a, rfl, h.vp st⟩
def Ww.small (w : Ww) : Prop := w.l.length < 900000 ∧ (QX w.l).length < 2000000 ∧ vsz w.x < 10000000
theorem Ww.small_part {w : Ww} (h : w.small) : ∀ p ∈ w.l, p.t.n < 2000000 := by
 have : ∀ (l : List Wp), ∀ p ∈ l, p.t.n ≤ (QX l).length := fun l => by
  induction l with
  | nil => intro p hp; simp at hp
  | cons q r ih =>
   intro p hp
   have h1 : QX (q :: r) = q.t.toList ++ QX r := rfl
   rw [h1, List.length_append, S.len]
   rcases List.mem_cons.1 hp with rfl | hp
   ·omega
   ·have := ih p hp; omega
 intro p hp
 exact Nat.lt_of_le_of_lt (this w.l p hp) h.2.1
def Ww.may (w : Ww) : Bool := JbV (w.l.map Wp.key)
theorem JcW (w : Ww) (r : List V) (st : St) : JB Tryz.prog st 41 (.cp (w.cells ++ r)) = some (.agg w.cells) := by
 simp only [JB, Q5, a31, z31, sub]
 rfl
inductive Cw
 | mk (k : Nat) (a : Int) (nm : S) (wv : V) (ws : List Ww) (kv : V) (kids : List Cw)
def Cw.cells : Cw → List V
 | .mk k a nm wv _ kv _ => [.int .u8 (k : Int), .int .i64 a, .str nm, wv, kv]
inductive Cw.ok : Cw → Prop
 | mk (k : Nat) (a : Int) (nm : S) (wv : V) (ws : List Ww) (kv : V) (kids : List Cw) (hk : k < 256) (hw : Row Ww.cells wv ws) (hws : ∀ w ∈ ws, w.ok) (hkv : Row Cw.cells kv kids) (hks : ∀ c ∈ kids, Cw.ok c) : Cw.ok (.mk k a nm wv ws kv kids)
inductive Cw.small : Cw → Prop
 | mk (k : Nat) (a : Int) (nm : S) (wv : V) (ws : List Ww) (kv : V) (kids : List Cw) (hn : nm.n < 2000000) (hwl : ws.length < 1000000) (hkl : kids.length < 1000000) (hwz : vsz wv < 10000000) (hkz : vsz kv < 10000000)
   (hws : ∀ w ∈ ws, w.small) (hks : ∀ c ∈ kids, Cw.small c) : Cw.small (.mk k a nm wv ws kv kids)
theorem Cw.len5 (c : Cw) : c.cells.length = 5 := by cases c; rfl
theorem z25 : JR Tryz.prog 25 = some 5 := by kernel_rfl
theorem a25 : QO Tryz.prog 25 = some true := by kernel_rfl
theorem JdE (c : Cw) (r : List V) (st : St) : JB Tryz.prog st 25 (.cp (c.cells ++ r)) = some (.agg c.cells) := by
 cases c
 simp only [JB, Q5, a25, z25, sub]
 rfl
def JeJ (ws : List Ww) (i : Nat) : Prop := (ws.take i).all Ww.may = true
theorem Jh6 (ws : List Ww) : JeJ ws 0 := rfl
theorem Jkc {ws : List Ww} {i : Nat} (h : JeJ ws i) (hi : ws.length ≤ i) : ws.all Ww.may = true := by
 unfold JeJ at h; rwa [List.take_of_length_le hi] at h
theorem Jh7 {ws : List Ww} {i : Nat} (h : JeJ ws i) (hi : i < ws.length) (hb : ws[i].may = true) : JeJ ws (i + 1) := by
 unfold JeJ at h ⊢
 rw [List.take_add_one, List.getElem?_eq_getElem hi, List.all_append, h]
 simp [hb]
theorem Jmg {ws : List Ww} {i : Nat} (hi : i < ws.length) (hb : ws[i].may = false) : ws.all Ww.may = false := by
 rw [Bool.eq_false_iff]
 intro h
 rw [List.all_eq_true] at h
 have := h _ (List.getElem_mem hi)
 rw [hb] at this
 cases this
variable [Memo] [NY]
theorem JgG (gl : Gl) (st : St) (x : V) (ws : List Ww) (hx : Row Ww.cells x ws) (hok : ∀ w ∈ ws, w.ok) (hs : ∀ w ∈ ws, w.small) (hl : ws.length < 1000000) :
  ∃ v st', W Tryz.prog (.call gl 68 [x]) st = .call (.val v st') ∧ v = .bool (ws.all Ww.may) ∧ Keep st st' := by
 have hk35 : Jg Tryz.prog 95 = true := by kernel_rfl
 have lx := hx.len Tryz.underlying22
 refine J3 (NY.no _ rfl rfl rfl _ _) Tryz.func68 rfl (by kernel_rfl) ?_
 repeat refine Does.seq ?_
 refine Does.region ?_
 simp
 repeat refine Does.seq ?_
 refine Does.region ?_
 simp
 generalize hA : ws.all Ww.may = A
 refine Does.mono (Q := fun e fr' st' => Keep st st' ∧ fr'.ds = [] ∧ ((e = AE.ret ∧ Fr.at fr' 2 = .bool false ∧ A = false) ∨ (e = AE.normal ∧ A = true))) ?loop ?tail
 case tail => as_aux_lemma =>
  rintro e fr' st' ⟨hk, hds, ⟨rfl, h2, hc⟩ | ⟨rfl, hc⟩⟩
  ·simp only [andThen]
   simp [hds, h2, hc, hk]
  ·simp only [andThen]
   repeat refine Does.seq ?_
   refine Does.region ?_
   simp
   refine Does.ret ?_
   simp [hds, hc, hk]
 case loop => as_aux_lemma =>
  refine Does.block (Does.up ws.length (fun i fr st' => Keep st st' ∧ fr.ds = [] ∧ fr.gl = gl ∧ Fr.at fr 0 = x ∧ Fr.at fr 3 = .int .i64 (i : Int) ∧ i ≤ ws.length ∧ JeJ ws i) 0 ?init ?JH ?step)
  case init => exact ⟨.refl st, by simp, by simp, by simp, by simp, Nat.zero_le _, Jh6 _⟩
  case JH => exact fun i fr st' h => h.2.2.2.2.2.1
  case step =>
   rintro i fr st' ⟨hk, hds, hg, h0, h3, hi, hall⟩
   have elen : ∀ kk, Je Tryz.prog kk .lss 3 (.int .i64 (i : Int)) (.int .i64 (ws.length : Int)) = some (.bool (decide (i < ws.length))) := fun kk => QN rfl
   repeat refine Does.seq ?_
   refine Does.region ?_
   by_cases hlt : i < ws.length
   rotate_left
   ·rw [decide_eq_false hlt] at elen
    simp [h0, h3, lx, elen]
    repeat refine Does.seq ?_
    refine Does.condF (by simp) ?_
    refine Does.exit ?_
    simp only [inBlock, if_true, andThen]
    exact ⟨hk, by simp [hds], .inr ⟨trivial, by rw [← hA]; exact Jkc hall (by omega)⟩⟩
   ·rw [decide_eq_true hlt] at elen
    obtain ⟨r, g1⟩ := hx.get (z := 2) (fun _ _ => rfl) Tryz.underlying22 z31 hlt
    have i1 := g1 .i64
    have hm := List.getElem_mem hlt
    have hw := hok _ hm
    have hsm := hs _ hm
    have hld := JcW ws[i] r st'
    obtain ⟨v, st2, hc, rfl, hk2⟩ := Jg5 gl st' (.agg ws[i].cells) ws[i].l (Ww.wv hw st') (by have := hsm.1; omega) (fun p hp => by have := Ww.small_part hsm p hp; omega)
    have hc := Jh hc
    rw [show JbV (ws[i].l.map Wp.key) = ws[i].may from rfl] at hc
    have hstep := fun h => Jh7 hall hlt h
    have hnot := fun h => Jmg hlt h
    generalize ws[i].may = mb at hc hstep hnot
    generalize ws[i].cells = cs at hld hc i1
    have w1 : IntKind.i64.wrap ((i : Int) + 1) = (i : Int) + 1 := Jp (by omega) (by omega)
    simp [h0, h3, lx, elen]
    repeat refine Does.seq ?_
    refine Does.condT (by simp) ?_
    refine Does.skip ?_
    simp
    repeat refine Does.seq ?_
    refine Does.block ?_
    repeat refine Does.seq ?_
    refine Does.region ?_
    simp [h0, h3, i1, hld, hg, Ja hk35, hc]
    repeat refine Does.seq ?_
    cases mb with
    | false =>
     refine Does.condT (by simp) ?_
     repeat refine Does.seq ?_
     refine Does.region ?_
     simp
     refine Does.ret ?_
     simp only [andThen, inBlock]
     exact ⟨hk.trans hk2, by simp [hds], .inl ⟨trivial, by simp, by rw [← hA]; exact hnot rfl⟩⟩
    | true =>
     refine Does.condF (by simp) ?_
     refine Does.skip ?_
     simp only [andThen, inBlock]
     refine Does.region ?_
     simp [h3, Jq, w1]
     exact ⟨i + 1, by omega, hk.trans hk2, by simp [hds], by simp [hg], by simp [h0], by simp, by omega, hstep rfl⟩
end Go.Vm
namespace Go.Vm
open Go Go.Proofs Go.Sy
set_option maxRecDepth 100000
attribute [local simp] Oks J8 Jj Jo vop Js Jy ev evs toV andThen inBlock Jn Fr.dsTo Fr.glTo Fr.toNone Jk Jl Jm J6 Jc Jz Jw V.undef JU J9 Qk
def IxQ (st : St) (A : Bool) (e : AE) (fr' : Fr) (st' : St) : Prop := Keep st st' ∧ fr'.ds = [] ∧ ((e = AE.ret ∧ (∃ r : Nat, Fr.at fr' 4 = .int .i64 (r : Int)) ∧ A = false) ∨ (e = AE.normal ∧ A = true))
variable [Memo] [NY]
theorem Jk8 (gl : Gl) {aL : List V} (hh : Hits gl aL) (st : St) (w : Ww) (hw : w.ok) (hs : w.small) :
  ∃ v st', W Tryz.prog (.call gl 88 [.agg w.cells]) st = .call (.val v st') ∧ v = .bool (!w.may) ∧ Keep st st' := by
 have hk24 : Jg Tryz.prog 81 = true := by kernel_rfl
 refine J3 (NY.no _ rfl rfl rfl _ _) Tryz.func88 rfl (by kernel_rfl) ?_
 repeat refine Does.seq ?_
 refine Does.region ?_
 have ox : Ju w.x = true := hw.one
 have oi : ∀ k n, Ju (.int k n) = true := fun _ _ => rfl
 simp [Jv, V.cells, Ww.cells, ox, oi, JM]
 have hk1 := JaH st w.x w.a
 have b1 := Ja0 st w.x w.a
 rw [show ({ ctr := st.ctr + 1, box := st.box.put st.ctr (.cells [w.x, .int .i64 w.a] 41 true (some 0)) } : St) = Qm st w.x w.a from rfl]
 revert hk1 b1
 generalize Qm st w.x w.a = st1
 intro hk1 b1
 have hld := JbE b1
 rw [show V.agg [w.x, .int .i64 w.a] = .agg w.cells from rfl] at hld
 obtain ⟨v, st2, hc, rfl, hk2⟩ := Jho gl hh st1 (.agg w.cells) w.l (Ww.wv hw st1) (by have := hs.1; omega) (fun p hp => by have := Ww.small_part hs p hp; omega)
 have hc := Jh hc
 rw [show JbV (w.l.map Wp.key) = w.may from rfl] at hc
 repeat refine Does.seq ?_
 refine Does.region ?_
 generalize w.may = mb at hc
 simp [hld, Ja hk24, hc]
 refine Does.ret ?_
 simp
 exact hk1.trans hk2
theorem Jhd (gl : Gl) {aL : List V} (hh : Hits gl aL) (st : St) (x : V) (ws : List Ww) (hx : Row Ww.cells x ws) (hok : ∀ w ∈ ws, w.ok) (hs : ∀ w ∈ ws, w.small) (hl : ws.length < 1000000) :
  ∃ v st', W Tryz.prog (.call gl 107 [x, .fn 88 [] []]) st = .call (.val v st') ∧ (∃ r : Int, v = .int .i64 r ∧ decide (0 ≤ r) = !ws.all Ww.may) ∧ Keep st st' := by
 have hk31 : Jg Tryz.prog 88 = true := by kernel_rfl
 have lx := hx.len Tryz.underlying22
 refine J3 (NY.no _ rfl rfl rfl _ _) Tryz.func107 rfl (by kernel_rfl) ?_
 repeat refine Does.seq ?_
 refine Does.region ?_
 simp
 repeat refine Does.seq ?_
 refine Does.region ?_
 simp [lx]
 generalize hA : ws.all Ww.may = A
 refine Does.mono (Q := IxQ st A) ?loop ?tail
 case tail => as_aux_lemma =>
  rintro e fr' st' ⟨hk, hds, ⟨rfl, ⟨r, h4⟩, hc⟩ | ⟨rfl, hc⟩⟩
  ·simp only [andThen]
   simp [hds, h4, hc, hk]
  ·simp only [andThen]
   repeat refine Does.seq ?_
   refine Does.region ?_
   simp
   refine Does.ret ?_
   simp [hds, hc, hk]
 case loop => as_aux_lemma =>
  refine Does.block (Does.up ws.length (fun i fr st' => Keep st st' ∧ fr.ds = [] ∧ fr.gl = gl ∧ Fr.at fr 0 = x ∧ Fr.at fr 1 = .fn 88 [] [] ∧ Fr.at fr 7 = .int .i64 (ws.length : Int) ∧ Fr.at fr 8 = .int .i64 (i : Int) ∧ i ≤ ws.length ∧ JeJ ws i) 0 ?init ?JH ?step)
  case init => exact ⟨.refl st, by simp, by simp, by simp, by simp, by simp, by simp, Nat.zero_le _, Jh6 _⟩
  case JH => exact fun i fr st' h => h.2.2.2.2.2.2.2.1
  case step =>
   rintro i fr st' ⟨hk, hds, hg, h0, h1, h7, h8, hi, hall⟩
   have elen : ∀ kk, Je Tryz.prog kk .lss 3 (.int .i64 (i : Int)) (.int .i64 (ws.length : Int)) = some (.bool (decide (i < ws.length))) := fun kk => QN rfl
   repeat refine Does.seq ?_
   refine Does.region ?_
   by_cases hlt : i < ws.length
   rotate_left
   ·rw [decide_eq_false hlt] at elen
    simp [h7, h8, elen]
    repeat refine Does.seq ?_
    refine Does.condF (by simp) ?_
    refine Does.exit ?_
    simp only [inBlock, if_true, andThen]
    exact ⟨hk, by simp [hds], .inr ⟨rfl, by rw [← hA]; exact Jkc hall (by omega)⟩⟩
   ·rw [decide_eq_true hlt] at elen
    obtain ⟨r, g1⟩ := hx.get (z := 2) (fun _ _ => rfl) Tryz.underlying22 z31 hlt
    have i1 := g1 .i64
    have hm := List.getElem_mem hlt
    have hw := hok _ hm
    have hsm := hs _ hm
    have hld := JcW ws[i] r st'
    obtain ⟨v, st2, hc, rfl, hk2⟩ := Jk8 gl hh st' ws[i] hw hsm
    have hc := Jh hc
    have hstep := fun h => Jh7 hall hlt h
    have hnot := fun h => Jmg hlt h
    generalize ws[i].may = mb at hc hstep hnot
    generalize ws[i].cells = cs at hld hc i1
    have w1 : IntKind.i64.wrap ((i : Int) + 1) = (i : Int) + 1 := Jp (by omega) (by omega)
    simp [h7, h8, elen]
    repeat refine Does.seq ?_
    refine Does.condT (by simp) ?_
    refine Does.skip ?_
    simp
    repeat refine Does.seq ?_
    refine Does.block ?_
    repeat refine Does.seq ?_
    refine Does.region ?_
    simp [h8]
    repeat refine Does.seq ?_
    refine Does.region ?_
    simp [h0, h1, i1, hld, hg, Ja hk31, hc]
    repeat refine Does.seq ?_
    cases mb with
    | false =>
     refine Does.condT (by simp) ?_
     repeat refine Does.seq ?_
     refine Does.region ?_
     simp
     refine Does.ret ?_
     simp only [andThen, inBlock]
     exact ⟨hk.trans hk2, by simp [hds], .inl ⟨rfl, ⟨i, by simp⟩, by rw [← hA]; exact hnot rfl⟩⟩
    | true =>
     refine Does.condF (by simp) ?_
     refine Does.skip ?_
     simp only [andThen, inBlock]
     refine Does.region ?_
     simp [h8, Jq, w1]
     exact ⟨i + 1, by omega, hk.trans hk2, by simp [hds], by simp [hg], by simp [h0], by simp [h1], by simp [h7], by simp, by omega, hstep rfl⟩
theorem Jkd (gl : Gl) {aL : List V} (hh : Hits gl aL) (st : St) (x : V) (ws : List Ww) (hx : Row Ww.cells x ws) (hok : ∀ w ∈ ws, w.ok) (hs : ∀ w ∈ ws, w.small) (hl : ws.length < 1000000) :
  ∃ v st', W Tryz.prog (.call gl 53 [x]) st = .call (.val v st') ∧ v = .bool (ws.all Ww.may) ∧ Keep st st' := by
 have hk43 : Jg Tryz.prog 107 = true := by kernel_rfl
 have hk30 : Jg Tryz.prog 87 = true := by kernel_rfl
 obtain ⟨v, st1, hc, ⟨r, rfl, hr⟩, hk1⟩ := Jhd gl hh st x ws hx hok hs hl
 have hc := Jh hc
 generalize ws.all Ww.may = A at hr
 have h30 : ∃ v st', W Tryz.prog (.call gl 87 [x, .fn 88 [] []]) st = .call (.val v st') ∧ v = .bool (!A) ∧ st' = st1 := by
  refine J3 (NY.no _ rfl rfl rfl _ _) Tryz.func87 rfl (by kernel_rfl) ?_
  repeat refine Does.seq ?_
  refine Does.region ?_
  simp
  repeat refine Does.seq ?_
  refine Does.region ?_
  have eg : ∀ kk, Je Tryz.prog kk .geq 3 (.int .i64 r) (.int .i64 0) = some (.bool (!A)) := fun kk => by rw [JaR, ← hr]
  simp [Ja hk43, hc, eg]
  refine Does.ret ?_
  simp
 obtain ⟨v, st2, hc3, rfl, rfl⟩ := h30
 have hc3 := Jh hc3
 refine J3 (NY.no _ rfl rfl rfl _ _) Tryz.func53 rfl (by kernel_rfl) ?_
 repeat refine Does.seq ?_
 refine Does.region ?_
 simp
 repeat refine Does.seq ?_
 refine Does.region ?_
 simp [Ja hk30, hc3]
 refine Does.ret ?_
 simp
 exact hk1
end Go.Vm
namespace Go.Vm
open Go Go.Proofs Go.Sy
set_option maxRecDepth 100000
attribute [local simp] Oks J8 Jj Jo vop Js Jy ev evs toV andThen inBlock Jn Fr.dsTo Fr.glTo Fr.toNone Jk Jl Jm J6 Jc Jz Jw V.undef JU J9 Qk
def JcX : List Ww → List Wp
 | [] => []
 | w :: _ => w.l
def JcY (l : List Wp) : Bool := okP l && !decide (l.length = 0) && decide (QX l ∈ resL)
def Jbo (nm : S) (ws : List Ww) : Bool :=
 if nm.n = 0 then !decide (ws.length = 0) && decide (ws.length ≤ 64) && ws.all Ww.may && !JcY (JcX ws) && !Ja9 (JcX ws)
 else QR nm.toList && decide (ws.length = 1) && JbV ((Jft nm (JcX ws)).map Wp.key)
def Jap (st : St) (k : Nat) (a : Int) (nm : S) (wv kv : V) : St := { ctr := st.ctr + 1, box := st.box.put st.ctr (.cells [.int .u8 (k : Int), .int .i64 a, .str nm, wv, kv] 25 true (some 0)) }
theorem Jas (st : St) (k : Nat) (a : Int) (nm : S) (wv kv : V) : Keep st (Jap st k a nm wv kv) := (Keep.refl st).new _
theorem JaB (st : St) (k : Nat) (a : Int) (nm : S) (wv kv : V) : (Jap st k a nm wv kv).box.get st.ctr = some (.cells [.int .u8 (k : Int), .int .i64 a, .str nm, wv, kv] 25 true (some 0)) := by unfold Jap; rw [Tr.get_put, if_pos rfl]
theorem JaC (st : St) (k : Nat) (a : Int) (nm : S) (wv kv : V) : st.ctr < (Jap st k a nm wv kv).ctr := Nat.lt_succ_self _
theorem cg0 (id : Nat) : JD Tryz.prog 25 (.ptr id 0) 0 = some (.ptr id 0) := by kernel_rfl
theorem cg2 (id : Nat) : JD Tryz.prog 25 (.ptr id 0) 2 = some (.ptr id 2) := by kernel_rfl
theorem cg3 (id : Nat) : JD Tryz.prog 25 (.ptr id 0) 3 = some (.ptr id 3) := by kernel_rfl
theorem cg4 (id : Nat) : JD Tryz.prog 25 (.ptr id 0) 4 = some (.ptr id 4) := by kernel_rfl
theorem sz5 : JR Tryz.prog 5 = some 1 := by kernel_rfl
theorem sa5 : QO Tryz.prog 5 = some false := by kernel_rfl
theorem Je1 : JR Tryz.prog 22 = some 1 := by kernel_rfl
theorem Je2 : QO Tryz.prog 22 = some false := by kernel_rfl
theorem JfJ : JR Tryz.prog 23 = some 1 := by kernel_rfl
theorem JfK : QO Tryz.prog 23 = some false := by kernel_rfl
theorem Jmh (nm : S) (l : List Wp) : (Jft nm l).length ≤ l.length + 1 := by
 cases l with
 | nil => exact Nat.le_refl _
 | cons p r =>
  rw [Jft]
  split <;> simp
theorem Jk9 {nm : S} {l : List Wp} {B C : Nat} (hn : nm.n < B) (h : ∀ p ∈ l, p.t.n < C) : ∀ p ∈ Jft nm l, p.t.n < B + C + 1 := by
 have e1 : (nm.app (S.ofList [61])).n = nm.n + 1 := rfl
 cases l with
 | nil =>
  intro p hp
  simp only [Jft, List.mem_singleton] at hp
  subst hp
  simp only [e1]; omega
 | cons q r =>
  intro p hp
  have hq := h q (by simp)
  have e2 : ((nm.app (S.ofList [61])).app q.t).n = nm.n + 1 + q.t.n := rfl
  rw [Jft] at hp
  split at hp
  ·rcases List.mem_cons.1 hp with rfl | hp
   ·simp only [e2]; omega
   ·have := h p (by simp [hp]); omega
  ·rcases List.mem_cons.1 hp with rfl | hp
   ·simp only [e1]; omega
   ·have := h p hp; omega
def Jpd (gl : Gl) (st1 : St) (id1 : Nat) (b : Bool) (e : AE) (fr : Fr) (st' : St) : Prop := e = AE.normal ∧ Keep st1 st' ∧ fr.ds = [] ∧ fr.gl = gl ∧ Fr.at fr 1 = .ptr id1 0 ∧ Fr.at fr 45 = .bool (!b)
variable [Memo] [NY]
set_option maxHeartbeats 1000000 in
theorem Ji9 (gl : Gl) {aL : List V} (hh : Hits gl aL) (st : St) (k : Nat) (a : Int) (nm : S) (wv : V) (ws : List Ww) (kv : V) (hn : nm.n < 2000000) (hl : ws.length < 1000000) (hz : vsz wv < 10000000) (hkv : Ju kv = true)
  (hw : Row Ww.cells wv ws) (hok : ∀ w ∈ ws, w.ok) (hs : ∀ w ∈ ws, w.small) :
  ∃ v st', W Tryz.prog (.call gl 51 [.agg [.int .u8 (k : Int), .int .i64 a, .str nm, wv, kv]]) st = .call (.val v st') ∧ v = .bool (Jbo nm ws) ∧ Keep st st' := by
 have hk18 : Jg Tryz.prog 52 = true := by kernel_rfl
 have hk19 : Jg Tryz.prog 53 = true := by kernel_rfl
 have hk24 : Jg Tryz.prog 81 = true := by kernel_rfl
 have hk25 : Jg Tryz.prog 82 = true := by kernel_rfl
 have hk26 : Jg Tryz.prog 83 = true := by kernel_rfl
 have hk27 : Jg Tryz.prog 84 = true := by kernel_rfl
 have hk28 : Jg Tryz.prog 85 = true := by kernel_rfl
 have ow := hw.one
 have oi : ∀ k n, Ju (.int k n) = true := fun _ _ => rfl
 have os : ∀ s, Ju (.str s) = true := fun _ => rfl
 have lx := hw.len Tryz.underlying22
 refine J3 (NY.no _ rfl rfl rfl _ _) Tryz.func51 rfl (by kernel_rfl) ?_
 repeat refine Does.seq ?_
 refine Does.region ?_
 simp [Jv, V.cells, ow, oi, os, hkv, JM]
 have hk1 := Jas st k a nm wv kv
 have b1 := JaB st k a nm wv kv
 have hct := JaC st k a nm wv kv
 rw [show ({ ctr := st.ctr + 1, box := st.box.put st.ctr (.cells [.int .u8 (k : Int), .int .i64 a, .str nm, wv, kv] 25 true (some 0)) } : St) = Jap st k a nm wv kv from rfl]
 revert hk1 b1 hct
 generalize Jap st k a nm wv kv = st1
 generalize hid1 : st.ctr = id1
 intro hk1 b1 hct
 have l2 := Jf (P := Tryz.prog) (off := 2) sa9 sz9 b1 rfl
 have l3 := Jf (P := Tryz.prog) (off := 3) Je2 Je1 b1 rfl
 have f2 := cg2 id1
 have f3 := cg3 id1
 have hemp := QH nm
 unfold Jbo
 repeat refine Does.seq ?_
 refine Does.region ?_
 by_cases hz : nm.n = 0
 ·rw [if_pos hz]
  have hd64 : decide (ws.length ≤ 64) = !decide (64 < ws.length) := by
   by_cases h : ws.length ≤ 64
   ·have : ¬ 64 < ws.length := by omega
    simp [h, this]
   ·have : 64 < ws.length := by omega
    simp [h, this]
  rw [hd64]
  generalize hcA : (!decide (ws.length = 0) && !decide (64 < ws.length) && ws.all Ww.may) = cA
  generalize hPR : JcY (JcX ws) = PR
  generalize hAO : Ja9 (JcX ws) = AO
  rw [decide_eq_true hz] at hemp
  simp [f2, l2, Jt, hemp]
  repeat refine Does.seq ?_
  refine Does.condF (by simp) ?_
  refine Does.skip ?_
  simp
  repeat refine Does.seq ?_
  have e0 : ∀ kk, Je Tryz.prog kk .eql 3 (.int .i64 (ws.length : Int)) (.int .i64 0) = some (.bool (decide (ws.length = 0))) := fun kk => JE rfl
  have e64 : ∀ kk, Je Tryz.prog kk .gtr 3 (.int .i64 (ws.length : Int)) (.int .i64 64) = some (.bool (decide (64 < ws.length))) := fun kk => Jbd rfl
  obtain ⟨v2, st2, hc2, hv2, hk2⟩ := Jkd gl hh st1 wv ws hw hok hs hl
  have hc2 := Jh hc2
  subst hv2
  refine Does.mono (Q := Jpd gl st1 id1 cA) ?r3 ?t3
  case r3 => as_aux_lemma =>
   refine Does.region ?_
   refine Oks.cont (Q := fun fr st' => Jpd gl st1 id1 cA AE.normal fr st') ?_ (fun fr st' h => h)
   rw [← hcA]
   generalize decide (ws.length = 0) = D0 at e0
   generalize decide (64 < ws.length) = D1 at e64
   generalize ws.all Ww.may = A at hc2
   cases D0 with
   | true =>
    simp [f3, l3, lx, e0]
    exact ⟨rfl, .refl _, by simp, by simp, by simp, by simp⟩
   | false =>
    cases D1 with
    | true =>
     simp [f3, l3, lx, e0, e64]
     exact ⟨rfl, .refl _, by simp, by simp, by simp, by simp⟩
    | false =>
     simp [f3, l3, lx, e0, e64, Ja hk19, hc2]
     exact ⟨rfl, hk2, by simp, by simp, by simp, by simp⟩
  case t3 => as_aux_lemma =>
  clear hk2
  rintro e fr st2 ⟨rfl, hk2, hds, hg, h1, h45⟩
  simp only [andThen]
  repeat refine Does.seq ?_
  cases cA with
  | false =>
   refine Does.condT (by simp [h45]) ?_
   repeat refine Does.seq ?_
   refine Does.region ?_
   simp
   refine Does.ret ?_
   simp [hds]
   exact hk1.trans hk2
  | true =>
  refine Does.condF (by simp [h45]) ?_
  refine Does.skip ?_
  simp only [andThen, Bool.true_and]
  cases ws with
  | nil => simp at hcA
  | cons w r =>
  clear e0 e64 hd64 hcA
  subst hPR hAO
  rw [show JcX (w :: r) = w.l from rfl]
  have hwo := hok w (by simp)
  have hws := hs w (by simp)
  have hpts := Ww.small_part hws
  have hk12 := hk1.trans hk2
  have b2 : st2.box.get id1 = some (.cells [.int .u8 (k : Int), .int .i64 a, .str nm, wv, kv] 25 true (some 0)) := by rw [hk2.box _ hct]; exact b1
  have l32 := Jf (P := Tryz.prog) (off := 3) Je2 Je1 b2 rfl
  obtain ⟨rr, g1⟩ := hw.get (z := 2) (fun _ _ => rfl) Tryz.underlying22 z31 (show 0 < (w :: r).length by simp)
  have i1 : Jd Tryz.prog 22 wv (.int .i64 0) = some (.cp (w.cells ++ rr)) := g1 .i64
  have hld := JcW w rr st2
  obtain ⟨v3, st3, hc3, ⟨s, rfl, hstx⟩, hk3⟩ := JkO gl st2 (.agg w.cells) w.l (Ww.wv hwo _) (by have := hws.1; omega) (by have := hws.2.1; omega)
  have hc3 := Jh hc3
  repeat refine Does.seq ?_
  refine Does.region ?_
  refine Oks.cont (Q := fun fr st' => Jad st3 st' ∧ fr.ds = [] ∧ fr.gl = gl ∧ Fr.at fr 1 = .ptr id1 0 ∧ Fr.at fr 3 = .str s ∧ Fr.at fr 4 = .bool (okP w.l && !decide (w.l.length = 0))) ?r5 ?t5
  case r5 => as_aux_lemma =>
   generalize w.cells = wc at hld hc3 i1
   generalize (okP w.l && !decide (w.l.length = 0)) = pl at hc3
   simp [h1, f3, l32, i1, hld, hg, hds, Ja hk26, hc3]
   exact rfl
  case t5 => as_aux_lemma =>
  clear hds hg h1 h45 hc3
  rintro fr st' ⟨hst', hds, hg, h1, h3, h4⟩
  rw [show st' = st3 from hst']
  clear hst'
  simp only [andThen]
  have hk13 := hk12.trans hk3
  have hct2 : id1 < st2.ctr := Nat.lt_of_lt_of_le hct hk2.ctr
  have b3 : st3.box.get id1 = some (.cells [.int .u8 (k : Int), .int .i64 a, .str nm, wv, kv] 25 true (some 0)) := by rw [hk3.box _ hct2]; exact b2
  have l33 := Jf (P := Tryz.prog) (off := 3) Je2 Je1 b3 rfl
  have hld3 := JcW w rr st3
  obtain ⟨v4, st4, hc4, ⟨s4, y4, a4, rfl, oy4⟩, hk4⟩ := Ji7 gl st3 (.agg w.cells) w.l (Ww.wv hwo _) (by have := hws.1; omega) (fun p hp => by have := hpts p hp; omega)
  have hc4 := Jh hc4
  repeat refine Does.seq ?_
  refine Does.region ?_
  refine Oks.cont (Q := fun fr st' => Keep st4 st' ∧ fr.ds = [] ∧ fr.gl = gl ∧ Fr.at fr 3 = .str s ∧ Fr.at fr 4 = .bool (okP w.l && !decide (w.l.length = 0)) ∧ Fr.at fr 7 = .bool (Ja9 w.l)) ?r6 ?t6
  case r6 => as_aux_lemma =>
   generalize w.cells = wc at hld3 hc4 i1
   generalize (okP w.l && !decide (w.l.length = 0)) = pl at h4
   generalize Ja9 w.l = ao at hc4
   have hnk := JaH st4 .nils 0
   have hnb := Ja0 st4 .nils 0
   have hs4 := QK (P := Tryz.prog) (st := Qm st4 .nils 0) (l := [y4, .int .i64 a4]) z31 hnb rfl rfl (by simp [oy4, oi])
   have on : Ju .nils = true := rfl
   have hkk : Keep st4 { Qm st4 .nils 0 with box := (Qm st4 .nils 0).box.put st4.ctr (.cells [y4, .int .i64 a4] 41 true (some 0)) } := Keep.put hnk (Nat.le_refl _) _
   have hs4' : JaN Tryz.prog { ctr := st4.ctr + 1, box := st4.box.put st4.ctr (.cells [.nils, .int .i64 0] 41 true (some 0)) } 41 (.ptr st4.ctr 0) (.agg [y4, .int .i64 a4]) = some { Qm st4 .nils 0 with box := (Qm st4 .nils 0).box.put st4.ctr (.cells [y4, .int .i64 a4] 41 true (some 0)) } := hs4
   revert hkk hs4'
   generalize ({ Qm st4 .nils 0 with box := (Qm st4 .nils 0).box.put st4.ctr (.cells [y4, .int .i64 a4] 41 true (some 0)) } : St) = st5
   intro hkk hs4'
   simp [h1, h3, h4, f3, l33, i1, hld3, hg, hds, Ja hk27, hc4, Jv, JkW, V.cells, on, oi, JM, Qe, hs4']
   exact hkk
  case t6 => as_aux_lemma =>
  clear hds hg h1 h3 h4 hc4
  rintro fr st5 ⟨hk5, hds, hg, h3, h4, h7⟩
  simp only [andThen]
  have hk15 := (hk13.trans hk4).trans hk5
  obtain ⟨v6, st6, hc6, rfl, hk6⟩ := JkR gl st5 s
  have hc6 := Jh hc6
  repeat refine Does.seq ?_
  refine Does.region ?_
  rw [show JcY w.l = (okP w.l && !decide (w.l.length = 0) && decide (QX w.l ∈ resL)) from rfl]
  generalize Ja9 w.l = ao at h7
  generalize decide (w.l.length = 0) = lz at h4
  cases hop : okP w.l with
  | false =>
   rw [hop] at h4
   cases ao <;> simp [h4, h7] <;> refine Does.ret ?_ <;> simp [hds] <;> exact hk15
  | true =>
   rw [hstx hop] at hc6
   rw [hop] at h4
   generalize decide (QX w.l ∈ resL) = rs at hc6
   cases lz with
   | true => cases ao <;> simp [h4, h7] <;> refine Does.ret ?_ <;> simp [hds] <;> exact hk15
   | false =>
    cases rs <;> cases ao <;> simp [h3, h4, h7, hg, Ja hk28, hc6] <;> refine Does.ret ?_ <;> simp [hds] <;> exact hk15.trans hk6
 ·rw [if_neg hz]
  rw [decide_eq_false hz] at hemp
  simp [f2, l2, Jt, hemp]
  repeat refine Does.seq ?_
  refine Does.condT (by simp) ?_
  repeat refine Does.seq ?_
  have hc18 := Jh (Jn5 gl { ctr := st1.ctr + 20, box := st1.box } nm (by omega))
  generalize QR nm.toList = nl at hc18
  have e1 : ∀ kk, Je Tryz.prog kk .eql 3 (.int .i64 (ws.length : Int)) (.int .i64 1) = some (.bool (decide (ws.length = 1))) := fun kk => JE rfl
  have hkt := hk1.tick 20
  have l2' := Jf (P := Tryz.prog) (st := { ctr := st1.ctr + 20, box := st1.box }) (off := 2) sa9 sz9 b1 rfl
  have l3' := Jf (P := Tryz.prog) (st := { ctr := st1.ctr + 20, box := st1.box }) (off := 3) Je2 Je1 b1 rfl
  generalize hD : decide (ws.length = 1) = D at e1
  refine Does.draw (b := [0, 1, 3, 7, 15, 31, 63, 127, 255, 511, 1023, 2047, 1023, 5119, 13311, 29695, 65535, 131071, 262143, 524287]) (l := [0, 1, 2, 3, 4, 5, 6, 7, 8, 9, 10, 11, 12, 13, 14, 15, 16, 17, 18, 19]) (by kernel_rfl) (by kernel_rfl) (by kernel_rfl) ?_
  have vx := Jag wv (by omega)
  cases nl with
  | false =>
   simp [JO, f2, l2', Ja hk18, hc18, JX]
   refine Does.ret ?_
   simp
   exact hkt
  | true =>
   cases D with
   | false =>
    simp [JO, f2, f3, l2', l3', Ja hk18, hc18, JX, vx, lx, e1]
    refine Does.ret ?_
    simp
    exact hkt
   | true =>
    obtain ⟨w, rfl⟩ : ∃ w, ws = [w] := by
     match ws, hD with
     | [w], _ => exact ⟨w, rfl⟩
    have hwo := hok w (by simp)
    have e1' : ∀ kk, Je Tryz.prog kk .eql 3 (.int .i64 1) (.int .i64 1) = some (.bool true) := e1
    have lx' : QU Tryz.prog 22 wv = some (.int .i64 1) := lx
    have hws := hs w (by simp)
    obtain ⟨r, g1⟩ := hw.get (z := 2) (fun _ _ => rfl) Tryz.underlying22 z31 (show 0 < [w].length by simp)
    have i1 : Jd Tryz.prog 22 wv (.int .i64 0) = some (.cp (w.cells ++ r)) := g1 .i64
    have hld := JcW w r { ctr := st1.ctr + 20, box := st1.box }
    have hpts := Ww.small_part hws
    obtain ⟨v2, st2, hc2, hv2, hk2⟩ := JhT gl { ctr := st1.ctr + 20, box := st1.box } nm (.agg w.cells) w.l (Ww.wv hwo _) (by have := hws.1; omega) (by omega) (fun p hp => by have := hpts p hp; omega)
    have hc2 := Jh hc2
    obtain ⟨v3, st3, hc3, rfl, hk3⟩ := Jho gl hh st2 v2 (Jft nm w.l) hv2 (by have := Jmh nm w.l; have := hws.1; omega) (fun p hp => by have := Jk9 (by omega) (fun p hp => hpts p hp) p hp; omega)
    have hc3 := Jh hc3
    have vw : veq 1000000000 (.agg w.cells) (.agg w.cells) = true := Jag _ (by have := hws.2.2; simp only [Ww.cells, vsz, Jbb]; omega)
    rw [show JcX [w] = w.l from rfl]
    generalize JbV ((Jft nm w.l).map Wp.key) = res at hc3
    generalize w.cells = wc at hld hc2 i1 vw
    simp [JO, f2, f3, l2', l3', Ja hk18, hc18, JX, vx, lx', e1', i1, hld, vw, Ja hk25, hc2, Ja hk24, hc3]
    refine Does.ret ?_
    simp
    exact (hkt.trans hk2).trans hk3
end Go.Vm
