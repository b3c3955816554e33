/- Simple commands that may be, by the document. -/
import Derived.Test.YtlmmgpmioaecnaaGreatDoorSz03
namespace Go.Vm
open Go Go.Proofs Go.Sy
set_option maxRecDepth 100000
attribute [local simp] Oks J8 Jj Jo vop Js Jy ev evs toV andThen inBlock Jn Fr.dsTo Fr.glTo Fr.toNone Jk Jl Jm J6 Jc Jz Jw V.undef JU J9 Qk
def Off (i : Nat) (s : V) : Prop := ∀ id n c, s = .ms id 0 n 3 c → id ≠ i
theorem OwnP.put' {b : Nat} {st : St} {s : V} {l : List Wp} (h : OwnP b st s l) {i : Nat} (hne : Off i s) (x : Bx) : OwnP b { st with box := st.box.put i x } s l := by
 rcases h.at' with h | ⟨id, cap, fl, rfl, hb, hbi, hi, hc⟩
 ·exact ⟨.inl h⟩
 ·have := hne id _ _ rfl
  exact ⟨.inr ⟨id, cap, fl, rfl, by rw [Tr.get_put, if_neg (by omega)]; exact hb, hbi, hi, hc⟩⟩
theorem OwnP.veq {b : Nat} {st : St} {s : V} {l : List Wp} (h : OwnP b st s l) : veq 1000000000 s s = true := by
 rcases h.at' with ⟨rfl, _⟩ | ⟨id, cap, fl, rfl, _⟩ <;> simp [Go.Vm.veq]
theorem OwnP.app2 {b : Nat} {st : St} {s x : V} {l m : List Wp} (h : OwnP b st s l) (hx : Vp st x m) (hn : l.length + m.length < 4000000) (hb0 : b ≤ st.ctr) :
  ∃ y st', J0 Tryz.prog st 39 s x = some (y, st') ∧ OwnP b st' y (l ++ m) ∧ LowP b st st' ∧ ∀ i, i < st.ctr → Off i s → Off i y ∧ st'.box.get i = st.box.get i := by
 obtain ⟨i, hi, hs, hby⟩ := i33
 have hsrc := hx.src
 have hzb : Nat.beq 3 0 = false := rfl
 have hzl : Nat.beq ([V.bool false, .str ⟨0, 0⟩, .bool false] : List V).length 3 = true := rfl
 have hone := Jf0 m
 have hsl : JJ st 3 s = some (Jaa l, l.length) := by
  have := h.vp.src
  rcases h.at' with ⟨rfl, rfl⟩ | ⟨id, cap, fl, rfl, hb, _, hid, hc⟩ <;> exact this
 by_cases hm : m = []
 ·subst hm
  refine ⟨s, st, ?_, by rw [List.append_nil]; exact h, .refl _ _, fun i _ ho => ⟨ho, rfl⟩⟩
  simp only [J0, Tryz.underlying39, hi, hs, JQ, hzb, hsrc, hsl]
  rfl
 have hmb : Nat.beq m.length 0 = false := by
  cases m with
  | nil => exact absurd rfl hm
  | cons a b => rfl
 have hmp : 0 < m.length := by
  cases m with
  | nil => exact absurd rfl hm
  | cons a b => simp
 have h1 : Nat.ble ((l.length + m.length) * i.bytes) Jr = true := Nat.ble_eq_true_of_le (Nat.le_trans (Nat.mul_le_mul (Nat.le_of_lt hn) hby) (by decide))
 have h2 : Nat.ble (l.length + m.length) Jr = true := Nat.ble_eq_true_of_le (Nat.le_trans (Nat.le_of_lt hn) (by decide))
 have hnew : ∀ (bx : Tr Bx), OwnP b { ctr := st.ctr + 1, box := bx.put st.ctr (.cells (Jaa l ++ Jaa m) 43 false (some 0)) } (.ms st.ctr 0 (l.length + m.length) 3 none) (l ++ m) := fun bx =>
  ⟨.inr ⟨st.ctr, none, false, by rw [List.length_append], by rw [Tr.get_put, if_pos rfl, Jip], hb0, Nat.lt_succ_self _, .inr rfl⟩⟩
 have hoff : ∀ i, i < st.ctr → Off i (.ms st.ctr 0 (l.length + m.length) 3 none) := fun i hi id n c he => by
  cases he; omega
 rcases h.at' with ⟨rfl, rfl⟩ | ⟨id, cap, fl, rfl, hb, hbid, hid, hc⟩
 ·refine ⟨_, _, ?_, hnew st.box, ⟨Nat.le_succ _, fun j hj => by rw [Tr.get_put, if_neg (by omega)]⟩, fun i hi _ => ⟨hoff i hi, by rw [Tr.get_put, if_neg (by omega)]⟩⟩
  simp only [J0, Tryz.underlying39, hi, hs, JQ, hzb, hsrc, hsl, hmb, h1, h2, hone]
  rfl
 ·rcases hc with rfl | rfl
  ·have h3 : Nat.ble (l.length + m.length) l.length = false := by
    rw [Bool.eq_false_iff]; intro h; have := Nat.le_of_ble_eq_true h; omega
   refine ⟨_, _, ?_, hnew st.box, ⟨Nat.le_succ _, fun j hj => by rw [Tr.get_put, if_neg (by omega)]⟩, fun i hi _ => ⟨hoff i hi, by rw [Tr.get_put, if_neg (by omega)]⟩⟩
   simp only [J0, Tryz.underlying39, hi, hs, JQ, hzb, hsrc, hsl, hmb, h1, h2, hone, hb, QV, h3]
   rfl
  ·have h3 : Nat.ble (0 + (l.length + m.length) * 3) (Jaa l).length = false := by
    rw [Bool.eq_false_iff, JaD]; intro h; have := Nat.le_of_ble_eq_true h; omega
   refine ⟨_, _, ?_, hnew (st.box.del id), ⟨Nat.le_succ _, fun j hj => by rw [Tr.get_put, if_neg (by omega), Tr.get_del, if_neg (by omega)]⟩, fun i hi ho => ⟨hoff i hi, by have := ho id _ _ rfl; rw [Tr.get_put, if_neg (by omega), Tr.get_del, if_neg (by omega)]⟩⟩
   simp only [J0, Tryz.underlying39, hi, hs, JQ, hzb, hsrc, hsl, hmb, h1, h2, hone, hb, QV, h3]
   rfl
theorem JmQ {nq : S} {l : List Wp} {i : Nat} (hi : i < l.length) (h : i = 0 → Je0 l = false) : Jan nq (l.take (i + 1)) = Jan nq (l.take i) ++ [l[i]] := by
 cases l with
 | nil => simp at hi
 | cons p r =>
  cases i with
  | zero =>
   have := h rfl
   simp only [List.take_succ_cons, List.take_zero, List.getElem_cons_zero]
   rw [JlX nq (l := [p]) this]
   rfl
  | succ i =>
   have hi' : i < r.length := by simpa using hi
   simp only [List.take_succ_cons, List.getElem_cons_succ, Jan]
   rw [List.take_add_one, List.getElem?_eq_getElem hi']
   split <;> simp
def Jn7 (gl : Gl) (st1 : St) (id1 : Nat) (b : Bool) (e : AE) (fr : Fr) (st' : St) : Prop := e = AE.normal ∧ Keep st1 st' ∧ fr.ds = [] ∧ fr.gl = gl ∧ Fr.at fr 1 = .ptr id1 0 ∧ Fr.at fr 29 = .bool (!b)
def Jkm (gl : Gl) (nq : S) (x : V) (l : List Wp) (st1 : St) (id9 i : Nat) (fr : Fr) (st' : St) : Prop :=
 fr.ds = [] ∧ fr.gl = gl ∧ Fr.at fr 8 = x ∧ Fr.at fr 9 = .ptr id9 0 ∧ Keep st1 st' ∧ id9 < st'.ctr ∧
 ∃ z, st'.box.get id9 = some (.cells [z, .int .i64 0] 41 true (some 0)) ∧ OwnP st1.ctr st' z (Jan nq (l.take i)) ∧ Off id9 z
def Jpo (gl : Gl) (nq : S) (x : V) (l : List Wp) (st1 : St) (id9 i : Nat) (fr : Fr) (st' : St) : Prop :=
 Jkm gl nq x l st1 id9 i fr st' ∧ Fr.at fr 10 = .int .i64 (i : Int) ∧ i ≤ l.length
theorem JmR {nq : S} {l : List Wp} {i : Nat} {p : Wp} (hi : i < l.length) (hp : l[i] = p) {b : Bool} (hb : (decide (i = 0) && !p.v && !p.q && !p.t.toList.isEmpty) = b) :
  (b = true → i = 0 ∧ Jan nq (l.take (i + 1)) = [⟨false, nq.app p.t, false⟩]) ∧ (b = false → Jan nq (l.take (i + 1)) = Jan nq (l.take i) ++ [p]) := by
 subst hp hb
 constructor
 ·intro h
  have h0 : i = 0 := by
   refine Classical.byContradiction fun hn => ?_
   rw [decide_eq_false hn] at h; simp at h
  subst h0
  refine ⟨rfl, ?_⟩
  cases l with
  | nil => simp at hi
  | cons p r =>
   have hh : Je0 (p :: []) = true := by
    unfold Je0
    simpa using h
   simpa using Jj0 nq (p := p) (r := []) hh
 ·intro h
  refine JmQ hi fun h0 => ?_
  subst h0
  cases l with
  | nil => rfl
  | cons p r =>
   unfold Je0
   simpa using h
def Jkn (gl : Gl) (x : V) (id9 i : Nat) (fr : Fr) : Prop := fr.ds = [] ∧ fr.gl = gl ∧ Fr.at fr 8 = x ∧ Fr.at fr 9 = .ptr id9 0 ∧ Fr.at fr 10 = .int .i64 (i : Int)
def Jpp (gl : Gl) (x : V) (id9 i : Nat) (st : St) (b : Bool) (e : AE) (fr : Fr) (st' : St) : Prop := e = AE.normal ∧ Jad st st' ∧ Jkn gl x id9 i fr ∧ Fr.at fr 109 = .bool b
variable [Memo] [NY]
set_option maxHeartbeats 1000000 in
theorem Jjx (gl : Gl) (st : St) (k : Nat) (a : Int) (nm : S) (wv : V) (ws : List Ww) (kv : V) (hn : nm.n < 2000000) (hl : ws.length < 1000000) (hkv : Ju kv = true)
  (hw : Row Ww.cells wv ws) (hok : ∀ w ∈ ws, w.ok) (hs : ∀ w ∈ ws, w.small) :
  ∃ v st', W Tryz.prog (.call gl 66 [.agg [.int .u8 (k : Int), .int .i64 a, .str nm, wv, kv]]) st = .call (.val v st') ∧ v = .bool (Jbo nm ws) ∧ Keep st st' := by
 have hk21 : Jg Tryz.prog 67 = true := by kernel_rfl
 have hk22 : Jg Tryz.prog 68 = true := by kernel_rfl
 have hk32 : Jg Tryz.prog 92 = true := by kernel_rfl
 have hk33 : Jg Tryz.prog 93 = true := by kernel_rfl
 have hk34 : Jg Tryz.prog 94 = true := by kernel_rfl
 have hk35 : Jg Tryz.prog 95 = true := by kernel_rfl
 have ow := hw.one
 have oi : ∀ k n, Ju (.int k n) = true := fun _ _ => rfl
 have os : ∀ s, Ju (.str s) = true := fun _ => rfl
 have lx := hw.len Tryz.underlying22
 refine J3 (NY.no _ rfl rfl rfl _ _) Tryz.func66 rfl (by kernel_rfl) ?_
 repeat refine Does.seq ?_
 refine Does.region ?_
 simp [Jv, V.cells, ow, oi, os, hkv, JM]
 have hk1 := Jas st k a nm wv kv
 have b1 := JaB st k a nm wv kv
 have hct := JaC st k a nm wv kv
 rw [show ({ ctr := st.ctr + 1, box := st.box.put st.ctr (.cells [.int .u8 (k : Int), .int .i64 a, .str nm, wv, kv] 25 true (some 0)) } : St) = Jap st k a nm wv kv from rfl]
 revert hk1 b1 hct
 generalize Jap st k a nm wv kv = st1
 generalize hid1 : st.ctr = id1
 intro hk1 b1 hct
 have l2 := Jf (P := Tryz.prog) (off := 2) sa9 sz9 b1 rfl
 have l3 := Jf (P := Tryz.prog) (off := 3) Je2 Je1 b1 rfl
 have f2 := cg2 id1
 have f3 := cg3 id1
 have hemp := QH nm
 unfold Jbo
 repeat refine Does.seq ?_
 refine Does.region ?_
 by_cases hz : nm.n = 0
 ·rw [if_pos hz]
  have hd64 : decide (ws.length ≤ 64) = !decide (64 < ws.length) := by
   by_cases h : ws.length ≤ 64
   ·have : ¬ 64 < ws.length := by omega
    simp [h, this]
   ·have : 64 < ws.length := by omega
    simp [h, this]
  rw [hd64]
  generalize hcA : (!decide (ws.length = 0) && !decide (64 < ws.length) && ws.all Ww.may) = cA
  generalize hPR : JcY (JcX ws) = PR
  generalize hAO : Ja9 (JcX ws) = AO
  rw [decide_eq_true hz] at hemp
  simp [f2, l2, Ji, hemp]
  repeat refine Does.seq ?_
  refine Does.condT (by simp) ?_
  repeat refine Does.seq ?_
  have e0 : ∀ kk, Je Tryz.prog kk .lss 3 (.int .i64 (ws.length : Int)) (.int .i64 1) = some (.bool (decide (ws.length = 0))) := fun kk => by
   have := QN (P := Tryz.prog) (kk := kk) (T := 3) (q := .i64) (c := ws.length) (m := 1) (k := 1) rfl
   rw [this]
   congr 2
   rw [Bool.eq_iff_iff, decide_eq_true_iff, decide_eq_true_iff]; omega
  have e64 : ∀ kk, Je Tryz.prog kk .gtr 3 (.int .i64 (ws.length : Int)) (.int .i64 64) = some (.bool (decide (64 < ws.length))) := fun kk => Jbd rfl
  obtain ⟨v2, st2, hc2, hv2, hk2⟩ := JgG gl st1 wv ws hw hok hs hl
  have hc2 := Jh hc2
  subst hv2
  refine Does.mono (Q := Jn7 gl st1 id1 cA) ?r3 ?t3
  case r3 => as_aux_lemma =>
   refine Does.region ?_
   refine Oks.cont (Q := fun fr st' => Jn7 gl st1 id1 cA AE.normal fr st') ?_ (fun fr st' h => h)
   rw [← hcA]
   generalize decide (ws.length = 0) = D0 at e0
   generalize decide (64 < ws.length) = D1 at e64
   generalize ws.all Ww.may = A at hc2
   cases D0 with
   | true =>
    simp [f3, l3, lx, e0]
    exact ⟨rfl, .refl _, by simp, by simp, by simp, by simp⟩
   | false =>
    cases D1 with
    | true =>
     simp [f3, l3, lx, e0, e64]
     exact ⟨rfl, .refl _, by simp, by simp, by simp, by simp⟩
    | false =>
     simp [f3, l3, lx, e0, e64, Ja hk22, hc2]
     exact ⟨rfl, hk2, by simp, by simp, by simp, by simp⟩
  case t3 => as_aux_lemma =>
  clear hk2
  rintro e fr st2 ⟨rfl, hk2, hds, hg, h1, h45⟩
  simp only [andThen]
  repeat refine Does.seq ?_
  cases cA with
  | false =>
   refine Does.condT (by simp [h45]) ?_
   repeat refine Does.seq ?_
   refine Does.region ?_
   simp
   refine Does.ret ?_
   simp [hds]
   exact hk1.trans hk2
  | true =>
  refine Does.condF (by simp [h45]) ?_
  refine Does.skip ?_
  simp only [andThen, Bool.true_and]
  cases ws with
  | nil => simp at hcA
  | cons w r =>
  clear e0 e64 hd64 hcA
  subst hPR hAO
  rw [show JcX (w :: r) = w.l from rfl]
  have hwo := hok w (by simp)
  have hws := hs w (by simp)
  have hpts := Ww.small_part hws
  have hk12 := hk1.trans hk2
  have b2 : st2.box.get id1 = some (.cells [.int .u8 (k : Int), .int .i64 a, .str nm, wv, kv] 25 true (some 0)) := by rw [hk2.box _ hct]; exact b1
  have l32 := Jf (P := Tryz.prog) (off := 3) Je2 Je1 b2 rfl
  obtain ⟨rr, g1⟩ := hw.get (z := 2) (fun _ _ => rfl) Tryz.underlying22 z31 (show 0 < (w :: r).length by simp)
  have i1 : Jd Tryz.prog 22 wv (.int .i64 0) = some (.cp (w.cells ++ rr)) := g1 .i64
  have hld := JcW w rr st2
  obtain ⟨v3, st3, hc3, ⟨s, rfl, hstx⟩, hk3⟩ := JkP gl st2 (.agg w.cells) w.l (Ww.wv hwo _) (by have := hws.1; omega) (by have := hws.2.1; omega)
  have hc3 := Jh hc3
  repeat refine Does.seq ?_
  refine Does.region ?_
  refine Oks.cont (Q := fun fr st' => Jad st3 st' ∧ fr.ds = [] ∧ fr.gl = gl ∧ Fr.at fr 1 = .ptr id1 0 ∧ Fr.at fr 3 = .str s ∧ Fr.at fr 4 = .bool (okP w.l && !decide (w.l.length = 0))) ?r5 ?t5
  case r5 => as_aux_lemma =>
   generalize w.cells = wc at hld hc3 i1
   generalize (okP w.l && !decide (w.l.length = 0)) = pl at hc3
   simp [h1, f3, l32, i1, hld, hg, hds, Ja hk32, hc3]
   exact rfl
  case t5 => as_aux_lemma =>
  clear hds hg h1 h45 hc3
  rintro fr st' ⟨hst', hds, hg, h1, h3, h4⟩
  rw [show st' = st3 from hst']
  clear hst'
  simp only [andThen]
  have hk13 := hk12.trans hk3
  have hct2 : id1 < st2.ctr := Nat.lt_of_lt_of_le hct hk2.ctr
  have b3 : st3.box.get id1 = some (.cells [.int .u8 (k : Int), .int .i64 a, .str nm, wv, kv] 25 true (some 0)) := by rw [hk3.box _ hct2]; exact b2
  have l33 := Jf (P := Tryz.prog) (off := 3) Je2 Je1 b3 rfl
  have hld3 := JcW w rr st3
  obtain ⟨v4, st4, hc4, ⟨s4, y4, a4, rfl, oy4⟩, hk4⟩ := Ji8 gl st3 (.agg w.cells) w.l (Ww.wv hwo _) (by have := hws.1; omega) (fun p hp => by have := hpts p hp; omega)
  have hc4 := Jh hc4
  repeat refine Does.seq ?_
  refine Does.region ?_
  refine Oks.cont (Q := fun fr st' => Keep st4 st' ∧ fr.ds = [] ∧ fr.gl = gl ∧ Fr.at fr 3 = .str s ∧ Fr.at fr 4 = .bool (okP w.l && !decide (w.l.length = 0)) ∧ Fr.at fr 7 = .bool (Ja9 w.l)) ?r6 ?t6
  case r6 => as_aux_lemma =>
   generalize w.cells = wc at hld3 hc4 i1
   generalize (okP w.l && !decide (w.l.length = 0)) = pl at h4
   generalize Ja9 w.l = ao at hc4
   have hnk := JaH st4 .nils 0
   have hnb := Ja0 st4 .nils 0
   have hs4 := QK (P := Tryz.prog) (st := Qm st4 .nils 0) (l := [y4, .int .i64 a4]) z31 hnb rfl rfl (by simp [oy4, oi])
   have on : Ju .nils = true := rfl
   have hkk : Keep st4 { Qm st4 .nils 0 with box := (Qm st4 .nils 0).box.put st4.ctr (.cells [y4, .int .i64 a4] 41 true (some 0)) } := Keep.put hnk (Nat.le_refl _) _
   have hs4' : JaN Tryz.prog { ctr := st4.ctr + 1, box := st4.box.put st4.ctr (.cells [.nils, .int .i64 0] 41 true (some 0)) } 41 (.ptr st4.ctr 0) (.agg [y4, .int .i64 a4]) = some { Qm st4 .nils 0 with box := (Qm st4 .nils 0).box.put st4.ctr (.cells [y4, .int .i64 a4] 41 true (some 0)) } := hs4
   revert hkk hs4'
   generalize ({ Qm st4 .nils 0 with box := (Qm st4 .nils 0).box.put st4.ctr (.cells [y4, .int .i64 a4] 41 true (some 0)) } : St) = st5
   intro hkk hs4'
   simp [h1, h3, h4, f3, l33, i1, hld3, hg, hds, Ja hk33, hc4, Jv, JkW, V.cells, on, oi, JM, Qe, hs4']
   exact hkk
  case t6 => as_aux_lemma =>
  clear hds hg h1 h3 h4 hc4
  rintro fr st5 ⟨hk5, hds, hg, h3, h4, h7⟩
  simp only [andThen]
  have hk15 := (hk13.trans hk4).trans hk5
  obtain ⟨v6, st6, hc6, rfl, hk6⟩ := JkS gl st5 s
  have hc6 := Jh hc6
  repeat refine Does.seq ?_
  refine Does.region ?_
  rw [show JcY w.l = (okP w.l && !decide (w.l.length = 0) && decide (QX w.l ∈ resL)) from rfl]
  generalize Ja9 w.l = ao at h7
  generalize decide (w.l.length = 0) = lz at h4
  cases hop : okP w.l with
  | false =>
   rw [hop] at h4
   cases ao <;> simp [h4, h7] <;> refine Does.ret ?_ <;> simp [hds] <;> exact hk15
  | true =>
   rw [hstx hop] at hc6
   rw [hop] at h4
   generalize decide (QX w.l ∈ resL) = rs at hc6
   cases lz with
   | true => cases ao <;> simp [h4, h7] <;> refine Does.ret ?_ <;> simp [hds] <;> exact hk15
   | false =>
    cases ao <;> simp [h3, h4, h7, hg, Ja hk34, hc6] <;> refine Does.ret ?_ <;> simp [hds] <;> first | exact hk15 | exact hk15.trans hk6
 ·rw [if_neg hz]
  rw [decide_eq_false hz] at hemp
  simp [f2, l2, Ji, hemp]
  repeat refine Does.seq ?_
  refine Does.condF (by simp) ?_
  refine Does.skip ?_
  simp only [andThen]
  repeat refine Does.seq ?_
  have hc21 := Jh (Jmz gl st1 nm (by omega))
  generalize QR nm.toList = nl at hc21
  have e1 : ∀ kk, Je Tryz.prog kk .neq 3 (.int .i64 (ws.length : Int)) (.int .i64 1) = some (.bool (!decide (ws.length = 1))) := fun kk => Jdz rfl
  generalize hD : decide (ws.length = 1) = D at e1
  refine Does.region ?_
  cases nl with
  | false =>
   simp [f2, l2, Ja hk21, hc21]
   repeat refine Does.seq ?_
   refine Does.condT (by simp) ?_
   repeat refine Does.seq ?_
   refine Does.region ?_
   simp
   refine Does.ret ?_
   simp
   exact hk1
  | true =>
   cases D with
   | false =>
    simp [f2, f3, l2, l3, Ja hk21, hc21, lx, e1]
    repeat refine Does.seq ?_
    refine Does.condT (by simp) ?_
    repeat refine Does.seq ?_
    refine Does.region ?_
    simp
    refine Does.ret ?_
    simp
    exact hk1
   | true =>
    obtain ⟨w, rfl⟩ : ∃ w, ws = [w] := by
     match ws, hD with
     | [w], _ => exact ⟨w, rfl⟩
    have e1' : ∀ kk, Je Tryz.prog kk .neq 3 (.int .i64 1) (.int .i64 1) = some (.bool false) := e1
    have lx' : QU Tryz.prog 22 wv = some (.int .i64 1) := lx
    have hwo := hok w (by simp)
    have hws := hs w (by simp)
    obtain ⟨rr, g1⟩ := hw.get (z := 2) (fun _ _ => rfl) Tryz.underlying22 z31 (show 0 < [w].length by simp)
    have i1 : Jd Tryz.prog 22 wv (.int .i64 0) = some (.cp (w.cells ++ rr)) := g1 .i64
    have hpts := Ww.small_part hws
    rw [show JcX [w] = w.l from rfl]
    simp [f2, f3, l2, l3, Ja hk21, hc21, lx', e1']
    repeat refine Does.seq ?_
    refine Does.condF (by simp) ?_
    refine Does.skip ?_
    simp only [andThen]
    repeat refine Does.seq ?_
    refine Does.region ?_
    have fx0 : JD Tryz.prog 41 (.cp (w.cells ++ rr)) 0 = some (.cp (w.cells ++ rr)) := by kernel_rfl
    have lx0 : JB Tryz.prog st1 39 (.cp (w.cells ++ rr)) = some w.x := by
     simp only [JB, Q5, Jcn, Jca, Ww.cells]; rfl
    have hxw := Ww.wv hwo st1
    have oxw : Ju w.x = true := Row.one hwo
    have hvx : Vp st1 w.x w.l := Row.vp hwo st1
    generalize w.cells ++ rr = wr at i1 fx0 lx0
    refine Oks.cont (Q := fun fr st' => Jad st1 st' ∧ fr.ds = [] ∧ fr.gl = gl ∧ Fr.at fr 1 = .ptr id1 0 ∧ Fr.at fr 8 = w.x) ?r9 ?t9
    case r9 => as_aux_lemma =>
     simp [f3, l3, i1, fx0, lx0]
     exact rfl
    case t9 =>
    clear hk21 hc21 e1 hD hw hok hs l3 f3 lx lx' e1' g1 i1 fx0 lx0
    rintro fr st' ⟨hst', hds, hg, h1, h8⟩
    rw [show st' = st1 from hst']
    clear hst'
    simp only [andThen]
    have hnq : (nm.app (S.ofList [61])).n = nm.n + 1 := rfl
    have hadd := JbI (P := Tryz.prog) (kk := true) (T := 9) (x := nm) (y := S.ofList [61]) (by have h61 : (S.ofList [61]).n = 1 := rfl; omega)
    rw [show Jft nm w.l = Jan (nm.app (S.ofList [61])) w.l from by cases w.l <;> rfl]
    generalize nm.app (S.ofList [61]) = nq at hadd hnq
    repeat refine Does.seq ?_
    refine Does.region ?_
    refine Oks.cont (Q := fun fr st' => Jkm gl nq w.x w.l st1 (st1.ctr + 1) 0 fr st') ?r10 ?t10
    case r10 => as_aux_lemma =>
     have hb33 := JlW nq
     have bs1 := Jom nq
     have o3 : Ju (.bool false) = true := rfl
     have o4 : Ju (.str nq) = true := rfl
     have on : Ju .nils = true := rfl
     have hb31 : JbO Tryz.prog 41 [(0, .ms st1.ctr 0 1 3 (some 1))] = some (.agg [.ms st1.ctr 0 1 3 (some 1), .int .i64 0]) := by kernel_rfl
     have hs4 := QK (P := Tryz.prog) (st := { ctr := st1.ctr + 1 + 1, box := (st1.box.put st1.ctr (.cells [.bool false, .str nq, .bool false] 43 true (some 0))).put (st1.ctr + 1) (.cells [.nils, .int .i64 0] 41 true (some 0)) }) (id := st1.ctr + 1) (cs := [.nils, .int .i64 0]) (l := [.ms st1.ctr 0 1 3 (some 1), .int .i64 0]) (e := 41) (fl := true) z31 (by rw [Tr.get_put, if_pos rfl]) rfl rfl rfl
     simp [h1, f2, l2, isK, hadd, Jx, hb33, bs1, JM, Jv, o3, o4, on, JkW, V.cells, oi, hb31, Qe, hs4]
     refine ⟨hds, hg, by simp [h8], by simp, Keep.put (((Keep.refl st1).new _).new _) (Nat.le_succ _) _, Nat.lt_succ_self _, .ms st1.ctr 0 1 3 (some 1), by rw [Tr.get_put, if_pos rfl], ⟨.inr ⟨st1.ctr, some 1, true, rfl, ?_, Nat.le_refl _, Nat.lt_succ_of_lt (Nat.lt_succ_self _), .inl rfl⟩⟩, ?_⟩
     ·rw [Tr.get_put, if_neg (by omega), Tr.get_put, if_neg (by omega), Tr.get_put, if_pos rfl]; rfl
     ·intro id n c he
      cases he; omega
    case t10 =>
    clear hds hg h1 h8 hadd
    rintro fr st' ⟨hds, hg, h8, h9, hk, hid9, z, hb9, hown, hoff⟩
    simp only [andThen]
    generalize hi9 : st1.ctr + 1 = id9 at h9 hid9 hb9 hoff
    repeat refine Does.seq ?_
    refine Does.region ?_
    simp
    repeat refine Does.seq ?_
    refine Does.mono (Q := fun e fr st' => e = AE.normal ∧ Jkm gl nq w.x w.l st1 id9 w.l.length fr st') ?loop ?tail
    case tail => as_aux_lemma =>
     rintro e fr st' ⟨rfl, hds, hg, h8, h9, hk, hid9, z, hb9, hown, hoff⟩
     simp only [andThen]
     rw [List.take_length] at hown
     repeat refine Does.seq ?_
     refine Does.region ?_
     have hld := JbE hb9
     have hlen : (Jan nq w.l).length ≤ w.l.length + 1 := by
      cases w.l with
      | nil => exact Nat.le_refl _
      | cons p r => rw [Jan]; split <;> simp
     have htx : ∀ p ∈ Jan nq w.l, p.t.n < 4000000000000000000 := by
      have hpts' := hpts
      revert hpts'
      cases w.l with
      | nil =>
       intro _ p hp
       simp only [Jan, List.mem_singleton] at hp
       subst hp
       show nq.n < _
       omega
      | cons q r =>
       intro hpts' p hp
       have hq := hpts' q (by simp)
       have e2 : (nq.app q.t).n = nq.n + q.t.n := rfl
       rw [Jan] at hp
       split at hp
       ·rcases List.mem_cons.1 hp with rfl | hp
        ·show (nq.app q.t).n < _
         omega
        ·have := hpts' p (by simp [hp]); omega
       ·rcases List.mem_cons.1 hp with rfl | hp
        ·show nq.n < _
         omega
        ·have := hpts' p hp; omega
     have hk35 : Jg Tryz.prog 95 = true := by kernel_rfl
     obtain ⟨v2, st2, hc2, hv2, hk2⟩ := Jg5 gl st' (.agg [z, .int .i64 0]) (Jan nq w.l) ⟨z, 0, rfl, hown.vp⟩ (by have := hws.1; omega) htx
     have hc2 := Jh hc2
     subst hv2
     generalize JbV ((Jan nq w.l).map Wp.key) = res at hc2
     simp [h9, hld, hg, Ja hk35, hc2]
     refine Does.ret ?_
     simp [hds]
     exact (hk1.trans hk).trans hk2
    case loop =>
     refine Does.block (Does.up w.l.length (fun i fr st' => Jpo gl nq w.x w.l st1 id9 i fr st') 0 ?init ?JH ?step)
     case init => exact ⟨⟨by simp [hds], by simp [hg], by simp [h8], by simp [h9], hk, hid9, z, hb9, hown, hoff⟩, by simp, Nat.zero_le _⟩
     case JH => exact fun i fr st' h => h.2.2
     case step =>
      clear hds hg h8 h9 hk hid9 hb9 hown hoff
      rintro i fr st' ⟨⟨hds, hg, h8, h9, hk, hid9, z, hb9, hown, hoff⟩, h10, hi⟩
      have elen : ∀ kk, Je Tryz.prog kk .lss 3 (.int .i64 (i : Int)) (.int .i64 (w.l.length : Int)) = some (.bool (decide (i < w.l.length))) := fun kk => QN rfl
      have hxl := hvx.keep hk
      have lxl := hxl.len
      repeat refine Does.seq ?_
      refine Does.region ?_
      by_cases hlt : i < w.l.length
      rotate_left
      ·rw [decide_eq_false hlt] at elen
       simp [h8, h10, lxl, elen]
       repeat refine Does.seq ?_
       refine Does.condF (by simp) ?_
       refine Does.exit ?_
       simp only [inBlock, if_true, andThen]
       have : i = w.l.length := by omega
       subst this
       exact ⟨trivial, by simp [hds], by simp [hg], by simp [h8], by simp [h9], hk, hid9, z, hb9, hown, hoff⟩
      ·rw [decide_eq_true hlt] at elen
       simp [h8, h10, lxl, elen]
       repeat refine Does.seq ?_
       refine Does.condT (by simp) ?_
       refine Does.skip ?_
       simp
       repeat refine Does.seq ?_
       refine Does.block ?_
       obtain ⟨pa, g3, g4⟩ := hxl.get hlt
       have hgd : w.l.getD i default = w.l[i] := by rw [List.getD_eq_getElem?_getD, List.getElem?_eq_getElem hlt]; rfl
       rw [hgd] at g4
       have hpn := hpts _ (List.getElem_mem hlt)
       have hturn := fun b => JmR (nq := nq) hlt rfl (b := b)
       generalize w.l[i] = p at g4 hpn hturn hgd
       obtain ⟨p33, ⟨p0, m0, n0⟩, ⟨p1, m1, n1⟩, ⟨p2, m2, n2⟩⟩ := g4.loads
       have i3 := g3 .i64
       have ete := Jbi p.t
       have e0 : ∀ kk, Je Tryz.prog kk .eql 3 (.int .i64 (i : Int)) (.int .i64 0) = some (.bool (decide (i = 0))) := fun kk => JE rfl
       repeat refine Does.seq ?_
       refine Does.mono (Q := Jpp gl w.x id9 i st' (decide (i = 0) && !p.v && !p.q && !p.t.toList.isEmpty)) ?r14 ?t14
       case r14 => as_aux_lemma =>
        refine Does.region ?_
        refine Oks.cont (Q := fun fr st'' => Jad st' st'' ∧ Jkn gl w.x id9 i fr ∧ Fr.at fr 109 = .bool (decide (i = 0) && !p.v && !p.q && !p.t.toList.isEmpty)) ?_ (fun fr st' h => ⟨rfl, h.1, h.2⟩)
        generalize p.t.toList.isEmpty = te at ete
        generalize p.v = vv at n0
        generalize p.q = qq at n2
        generalize p.t = tt at n1 ete
        generalize decide (i = 0) = zi at e0
        clear hl hvx hxl g3 g4 hturn hpn hpts hws hwo hxw oxw
        refine Oks.cut 11 (fun fr st'' => Jad st' st'' ∧ Jkn gl w.x id9 i fr ∧ Fr.at fr 94 = .bool (zi && !vv)) ?c1 ?c2
        case c1 => as_aux_lemma =>
         simp only [List.take]
         generalize hii : (i : Int) = ii at h10 e0 i3
         cases zi with
         | false =>
          simp [h10, e0]
          exact ⟨rfl, by simp [hds], by simp [hg], by simp [h8], by simp [h9], by simp [h10, hii]⟩
         | true =>
          simp [h8, h10, e0, i3, m0, n0]
          exact ⟨rfl, by simp [hds], by simp [hg], by simp [h8], by simp [h9], by simp [h10, hii]⟩
        case c2 => as_aux_lemma =>
        clear hds hg h8 h9 h10
        rintro fr st'' ⟨hst', ⟨hds, hg, h8, h9, h10⟩, h94⟩
        rw [show st'' = st' from hst']
        clear hst'
        simp only [List.drop]
        generalize (zi && !vv) = y1 at h94
        refine Oks.cut 8 (fun fr st'' => Jad st' st'' ∧ Jkn gl w.x id9 i fr ∧ Fr.at fr 102 = .bool (y1 && !qq)) ?c3 ?c4
        case c3 => as_aux_lemma =>
         simp only [List.take]
         generalize hii : (i : Int) = ii at h10 e0 i3
         cases y1 with
         | false =>
          simp [h94]
          exact ⟨rfl, by simp [hds], by simp [hg], by simp [h8], by simp [h9], by simp [h10, hii]⟩
         | true =>
          simp [h94, h8, h10, i3, m2, n2]
          exact ⟨rfl, by simp [hds], by simp [hg], by simp [h8], by simp [h9], by simp [h10, hii]⟩
        case c4 => as_aux_lemma =>
        clear hds hg h8 h9 h10 h94
        rintro fr st'' ⟨hst', ⟨hds, hg, h8, h9, h10⟩, h102⟩
        rw [show st'' = st' from hst']
        clear hst'
        simp only [List.drop]
        generalize (y1 && !qq) = y2 at h102
        generalize hii : (i : Int) = ii at h10 e0 i3
        cases y2 with
        | false =>
         simp [h102]
         exact ⟨rfl, by simp [hds], by simp [hg], by simp [h8], by simp [h9], by simp [h10, hii]⟩
        | true =>
         simp [h102, h8, h10, i3, m1, n1, Jt, ete]
         exact ⟨rfl, by simp [hds], by simp [hg], by simp [h8], by simp [h9], by simp [h10, hii]⟩
       case t14 => as_aux_lemma =>
        clear hds hg h8 h9 h10
        rintro e fr st'' ⟨rfl, hst', ⟨hds, hg, h8, h9, h10⟩, h109⟩
        rw [show st'' = st' from hst']
        clear hst'
        simp only [andThen]
        have hturn := hturn _ rfl
        generalize (decide (i = 0) && !p.v && !p.q && !p.t.toList.isEmpty) = b at h109 hturn
        repeat refine Does.seq ?_
        refine Does.mono (Q := fun e fr st'' => e = AE.normal ∧ Jkm gl nq w.x w.l st1 id9 (i + 1) fr st'' ∧ Fr.at fr 10 = .int .i64 (i : Int)) ?body ?next
        case next => as_aux_lemma =>
         clear hds hg h8 h9 h10
         rintro e fr st'' ⟨rfl, ⟨hds, hg, h8, h9, hr⟩, h10⟩
         simp only [andThen, inBlock]
         have w1 : IntKind.i64.wrap ((i : Int) + 1) = (i : Int) + 1 := Jp (by omega) (by have := hws.1; omega)
         refine Does.region ?_
         simp [h10, Jq, w1]
         exact ⟨i + 1, by omega, ⟨by simp [hds], by simp [hg], by simp [h8], by simp [h9], hr⟩, by simp, by omega⟩
        case body =>
        have b9t : ({ ctr := st'.ctr, box := st'.box } : St).box.get id9 = some (.cells [z, .int .i64 0] 41 true (some 0)) := hb9
        have fz9 := wf0 id9
        cases b with
        | true =>
         obtain ⟨rfl, hnew⟩ := hturn.1 rfl
         refine Does.condT (by simp [h109]) ?_
         repeat refine Does.seq ?_
         refine Does.draw (b := [0, 1, 0, 4, 12, 28, 60, 0, 0, 384, 896, 1920, 4092, 8191, 16383, 32767]) (l := [0, 1, 2, 3, 4, 5, 6, 7, 8, 9, 10, 11, 12, 13, 14, 15]) (by kernel_rfl) (by kernel_rfl) (by kernel_rfl) ?_
         have l29 := Jf (P := Tryz.prog) (st := { ctr := st'.ctr + 16, box := st'.box }) (off := 0) Jcn Jca hb9 rfl
         have hkt := (Keep.refl st').tick 16
         obtain ⟨pa', g3', g4'⟩ := (hxl.keep hkt).get hlt
         rw [hgd] at g4'
         obtain ⟨_, _, ⟨p1', m1', n1'⟩, _⟩ := g4'.loads
         have i3' : Jd Tryz.prog 39 w.x (.int .i64 0) = some pa' := g3' .i64
         have h10' : Fr.at fr 10 = .int .i64 0 := h10
         rcases hown.at' with ⟨_, hnil⟩ | ⟨zid, cap, fl, rfl, hzb, hbz, hzid, hc⟩
         ·cases w.l <;> simp [Jan] at hnil
         have hzb' : st'.box.get zid = some (.cells [.bool false, .str nq, .bool false] 43 fl (some 0)) := hzb
         have zi1 : Jd Tryz.prog 39 (.ms zid 0 1 3 cap) (.int .i64 0) = some (.ptr zid 0) := by
          simp only [Jd, Tryz.underlying39]; rfl
         have t1 := pg1 zid 0
         simp only [Nat.zero_add] at t1
         have r1 := Jf (P := Tryz.prog) (st := { ctr := st'.ctr + 16, box := st'.box }) (off := 1) sa9 sz9 hzb' rfl
         have hadd := JbI (P := Tryz.prog) (kk := false) (T := 9) (x := nq) (y := p.t) (by omega)
         have hst := QB (P := Tryz.prog) (st := { ctr := st'.ctr + 16, box := st'.box }) (t := 9) (off := 1) (v := .str (nq.app p.t)) sz9 hzb' (by simp) rfl
         simp only [List.set_cons_succ, List.set_cons_zero] at hst
         have hzlen : (Jan nq (List.take 0 w.l)).length = 1 := by rw [List.take_zero]; rfl
         rw [hzlen] at l29
         have vz : veq 1000000000 (.ms zid 0 1 3 cap) (.ms zid 0 1 3 cap) = true := by simp [Go.Vm.veq]
         simp [JO, h8, h9, h10', fz9, l29, zi1, t1, r1, i3', m1', n1', isK, hadd, Qe, hst, JX, vz]
         have hzne := hoff zid _ _ rfl
         refine ⟨by simp [hds], by simp [hg], by simp [h8], by simp [h9], Keep.put (hk.tick 16) (by omega) _, Nat.lt_of_lt_of_le hid9 (Nat.le_add_right _ _), .ms zid 0 1 3 cap, by rw [Tr.get_put, if_neg (by omega), hb9, hzlen], ?_, fun id n c he => by cases he; exact hzne⟩
         rw [hnew]
         exact ⟨.inr ⟨zid, cap, fl, rfl, by rw [Tr.get_put, if_pos rfl]; rfl, hbz, Nat.lt_of_lt_of_le hzid (Nat.le_add_right _ _), by rw [hzlen] at hc; exact hc⟩⟩
        | false =>
         have hnew := hturn.2 rfl
         refine Does.condF (by simp [h109]) ?_
         repeat refine Does.seq ?_
         refine Does.draw (b := [0, 1, 0, 0, 12, 28, 60, 127, 255, 511]) (l := [0, 1, 2, 3, 4, 5, 6, 7, 8, 9]) (by kernel_rfl) (by kernel_rfl) (by kernel_rfl) ?_
         have l29 := Jf (P := Tryz.prog) (st := { ctr := st'.ctr + 10, box := st'.box }) (off := 0) Jcn Jca hb9 rfl
         have hkt := (Keep.refl st').tick 10
         obtain ⟨pa', g3', g4'⟩ := (hxl.keep hkt).get hlt
         rw [hgd] at g4'
         obtain ⟨p33', _⟩ := g4'.loads
         have i3' := g3' .i64
         have bs1 : Qc Tryz.prog 39 1 [(0, .agg p.cells)] = some (p.cells, 43, 3) := by kernel_rfl
         have po : p.cells.all Ju = true := rfl
         have pl : p.cells.length = 3 := rfl
         have vp : veq 1000000000 (.agg p.cells) (.agg p.cells) = true := Jag _ (by simp [Wp.cells, vsz, Jbb])
         have hvz := hown.veq
         have hown1 : OwnP st1.ctr { ctr := st'.ctr + 10, box := st'.box.put (st'.ctr + 6) (.cells p.cells 43 true (some 0)) } z (Jan nq (w.l.take i)) := by
          rcases hown.at' with h | ⟨id, cap, fl, rfl, hb, hbi, hi, hc⟩
          ·exact ⟨.inl h⟩
          ·exact ⟨.inr ⟨id, cap, fl, rfl, by rw [Tr.get_put, if_neg (by omega)]; exact hb, hbi, by show id < st'.ctr + 10; omega, hc⟩⟩
         have hx8 : Vp { ctr := st'.ctr + 10, box := st'.box.put (st'.ctr + 6) (.cells p.cells 43 true (some 0)) } (.ms (st'.ctr + 6) 0 1 3 (some 1)) [p] :=
          .ms (st'.ctr + 6) 0 (some 1) p.cells [] 43 true (some 0) [p] (by rw [Tr.get_put, if_pos rfl]) (by show st'.ctr + 6 < st'.ctr + 10; omega) (by simp [Jaa]) (Nat.zero_le _) rfl
         have hlen : (Jan nq (w.l.take i)).length ≤ i + 1 := by
          have : (w.l.take i).length ≤ i := by simp; omega
          revert this
          cases w.l.take i with
          | nil => intro _; simp [Jan]
          | cons p r => intro h; rw [Jan]; split <;> simp at h ⊢ <;> omega
         have hk1c := hk.ctr
         obtain ⟨y, st4, hap, hown4, hlow, hoff4⟩ := hown1.app2 hx8 (by have := hws.1; simp; omega) (by show st1.ctr ≤ st'.ctr + 10; omega)
         have h4 := hoff4 id9 (by show id9 < st'.ctr + 10; omega) hoff
         have hb9' : st4.box.get id9 = some (.cells [z, .int .i64 0] 41 true (some 0)) := by
          rw [h4.2, Tr.get_put, if_neg (by omega)]; exact hb9
         have oy : JiS y = true := by
          rcases hown4.at' with ⟨rfl, _⟩ | ⟨_, _, _, rfl, _⟩ <;> rfl
         have hst := QB (P := Tryz.prog) (st := st4) (t := 39) (off := 0) (v := y) Jca hb9' (by simp) oy
         simp only [List.set_cons_zero] at hst
         generalize p.cells = pc at p33' bs1 po pl vp hap hlow
         simp [JO, h8, h9, h10, fz9, l29, i3', p33', Jx, bs1, Jv, po, JM, vp, hvz, Qe, hap, hst]
         have hk8 : Keep st1 { ctr := st'.ctr + 10, box := st'.box.put (st'.ctr + 6) (.cells pc 43 true (some 0)) } := Keep.put (id := st'.ctr + 6) (hk.tick 10) (by omega) _
         have hk4 : Keep st1 st4 := hlow.keep hk8 (Nat.le_refl _)
         have hc4 := hlow.ctr
         refine ⟨by simp [hds], by simp [hg], by simp [h8], by simp [h9], Keep.put hk4 (by omega) _, by show id9 < st4.ctr; simp only at hc4; omega, y, by rw [Tr.get_put, if_pos rfl], ?_, h4.1⟩
         rw [hnew]
         exact hown4.put' h4.1 _
end Go.Vm
namespace Go.Vm
open Go Go.Proofs Go.Sy
set_option maxRecDepth 100000
attribute [local simp] Oks J8 Jj Jo vop Js Jy ev evs toV andThen inBlock Jn Fr.dsTo Fr.glTo Fr.toNone Jk Jl Jm J6 Jc Jz Jw V.undef JU J9 Qk
def JeT (nm : S) (ws : List Ww) : Bool := decide (nm.n = 0) && decide (ws.length = 0)
def Jln (nm : S) (ws : List Ww) : Bool := QR nm.toList && decide (ws.length ≤ 64) && ws.all Ww.may
def Jko (d1 d2 d3 d4 d7 d8 d5 d6 d9 : Bool) (n : Nat) (bare sim fr : Bool) : Bool :=
 cond d1 (decide (n = 0) && sim) (cond d2 (bare && decide (n = 1)) (cond (cond d3 true (cond d4 true (cond d7 true d8))) (bare && decide (n = 2)) (cond d5 (bare && decide (2 ≤ n)) (cond d6 (bare && (decide (n = 2) || decide (n = 3))) (cond d9 (decide (n = 1) && fr) false)))))
def JcJ (k n : Nat) (nm : S) (ws : List Ww) : Bool :=
 Jko (decide (k = 1)) (decide (k = 2)) (decide (k = 3)) (decide (k = 4)) (decide (k = 7)) (decide (k = 8)) (decide (k = 5)) (decide (k = 6)) (decide (k = 9)) n (JeT nm ws) (Jbo nm ws) (Jln nm ws)
mutual
def JbU : Cw → Bool
 | .mk k _ nm _ ws _ kids => Jc3 kids && JcJ k kids.length nm ws
def Jc3 : List Cw → Bool
 | [] => true
 | c :: r => JbU c && Jc3 r
end
theorem Jbk : ∀ l : List Cw, Jc3 l = l.all JbU
 | [] => by simp [Jc3]
 | c :: r => by simp [Jc3, Jbk r]
def Jc4 (ks : List Cw) (i : Nat) : Prop := (ks.take i).all JbU = true
theorem JgM (ks : List Cw) : Jc4 ks 0 := rfl
theorem Jiy {ks : List Cw} {i : Nat} (h : Jc4 ks i) (hi : ks.length ≤ i) : Jc3 ks = true := by
 rw [Jbk]; unfold Jc4 at h; rwa [List.take_of_length_le hi] at h
theorem JgN {ks : List Cw} {i : Nat} (h : Jc4 ks i) (hi : i < ks.length) (hb : JbU ks[i] = true) : Jc4 ks (i + 1) := by
 unfold Jc4 at h ⊢
 rw [List.take_add_one, List.getElem?_eq_getElem hi, List.all_append, h]
 simp [hb]
theorem Jkp {ks : List Cw} {i : Nat} (hi : i < ks.length) (hb : JbU ks[i] = false) : Jc3 ks = false := by
 rw [Jbk, Bool.eq_false_iff]
 intro h
 rw [List.all_eq_true] at h
 have := h _ (List.getElem_mem hi)
 rw [hb] at this
 cases this
theorem Jeu : Q7 Tryz.prog 25 = some (.agg [.int .u8 0, .int .i64 0, .str (S.ofList []), .nils, .nils]) := by kernel_rfl
theorem Cw.ones {c : Cw} (h : c.ok) : c.cells.all Ju = true := by
 cases h with
 | mk k a nm wv ws kv kids hk hw hws hkv hks =>
  simp only [Cw.cells, List.all_cons, hw.one, hkv.one]
  rfl
theorem JbG {st : St} {id : Nat} {c : Cw} {e : TypeId} {fl : Bool} {fz : Option Nat} (hb : st.box.get id = some (.cells c.cells e fl fz)) : JB Tryz.prog st 25 (.ptr id 0) = some (.agg c.cells) := by
 have hl := c.len5
 simp only [JB, hb, Q5, a25, z25]
 simp [sub, hl, List.take_of_length_le]
def Jcd (st : St) (c : Cw) : St := { ctr := st.ctr + 1, box := (st.box.put st.ctr (.cells [.int .u8 0, .int .i64 0, .str (S.ofList []), .nils, .nils] 25 true (some 0))).put st.ctr (.cells c.cells 25 true (some 0)) }
theorem Jc5 (st : St) (c : Cw) : Keep st (Jcd st c) := Keep.put ((Keep.refl st).new _) (Nat.le_refl _) _
theorem JdK (st : St) (c : Cw) : (Jcd st c).box.get st.ctr = some (.cells c.cells 25 true (some 0)) := by unfold Jcd; rw [Tr.get_put, if_pos rfl]
theorem JcD (st : St) {c : Cw} (h : c.ok) : JaN Tryz.prog { ctr := st.ctr + 1, box := st.box.put st.ctr (.cells [.int .u8 0, .int .i64 0, .str (S.ofList []), .nils, .nils] 25 true (some 0)) } 25 (.ptr st.ctr 0) (.agg c.cells) = some (Jcd st c) :=
 QK z25 (by rw [Tr.get_put, if_pos rfl]) rfl c.len5 (Cw.ones h)
def Jf3 (gl : Gl) (id1 : Nat) (fr : Fr) : Prop := fr.ds = [] ∧ fr.gl = gl ∧ Fr.at fr 1 = .ptr id1 0
def Jpq (gl : Gl) (id1 : Nat) (st : St) (A : Bool) (e : AE) (fr : Fr) (st' : St) : Prop :=
 (e = AE.ret ∧ Keep st st' ∧ fr.ds = [] ∧ Fr.at fr 2 = .bool false ∧ A = false) ∨ (e = AE.normal ∧ Keep st st' ∧ Jf3 gl id1 fr ∧ A = true)
def Jn8 (st : St) (b : Bool) (e : AE) (fr : Fr) (st' : St) : Prop :=
 (e = AE.ret ∧ Keep st st' ∧ fr.ds = [] ∧ Fr.at fr 2 = .bool b) ∨ (e = AE.normal ∧ Keep st st' ∧ fr.ds = [] ∧ b = false)
def Jn9 (gl : Gl) (id1 n : Nat) (bare : Bool) (fr : Fr) : Prop := Jf3 gl id1 fr ∧ Fr.at fr 5 = .int .i64 (n : Int) ∧ Fr.at fr 6 = .bool bare
def JmS (gl : Gl) (id1 : Nat) (ki kl : Int) (bare : Bool) (st : St) (b : Bool) (e : AE) (fr : Fr) (st' : St) : Prop :=
 e = AE.normal ∧ Jad st st' ∧ Jf3 gl id1 fr ∧ Fr.at fr 5 = .int .i64 kl ∧ Fr.at fr 6 = .bool bare ∧ Fr.at fr 31 = .int .u8 ki ∧ Fr.at fr 47 = .bool b
variable [Memo] [NY]
set_option maxHeartbeats 1000000 in
theorem JnN (gl : Gl) {aL : List V} (hh : Hits gl aL) (c : Cw) (hok : c.ok) : c.small → ∀ st : St,
  ∃ v st', W Tryz.prog (.call gl 34 [.agg c.cells]) st = .call (.val v st') ∧ v = .bool (JbU c) ∧ Keep st st' := by
 induction hok with
 | mk k a nm wv ws kv kids hk hw hws hkv hks ih =>
 intro hsm st
 cases hsm with
 | mk _ _ _ _ _ _ _ hn hwl hkl hwz hkz hws' hks' =>
 have hk11 : Jg Tryz.prog 34 = true := by kernel_rfl
 have hk17 : Jg Tryz.prog 51 = true := by kernel_rfl
 have hk18 : Jg Tryz.prog 52 = true := by kernel_rfl
 have hk19 : Jg Tryz.prog 53 = true := by kernel_rfl
 have ow := hw.one
 have okv := hkv.one
 have oi : ∀ k n, Ju (.int k n) = true := fun _ _ => rfl
 have os : ∀ s, Ju (.str s) = true := fun _ => rfl
 have lx := hw.len Tryz.underlying22
 have lk := hkv.len Tryz.underlying23
 refine J3 (NY.no _ rfl rfl rfl _ _) Tryz.func34 rfl (by kernel_rfl) ?_
 repeat refine Does.seq ?_
 refine Does.region ?_
 simp [Jv, V.cells, Cw.cells, ow, oi, os, okv, JM]
 have hk1 := Jas st k a nm wv kv
 have b1 := JaB st k a nm wv kv
 have hct := JaC st k a nm wv kv
 rw [show ({ ctr := st.ctr + 1, box := st.box.put st.ctr (.cells [.int .u8 (k : Int), .int .i64 a, .str nm, wv, kv] 25 true (some 0)) } : St) = Jap st k a nm wv kv from rfl]
 revert hk1 b1 hct
 generalize Jap st k a nm wv kv = st1
 generalize hid1 : st.ctr = id1
 intro hk1 b1 hct
 have l4 := Jf (P := Tryz.prog) (off := 4) JfK JfJ b1 rfl
 have f0 := cg0 id1
 have f2 := cg2 id1
 have f3 := cg3 id1
 have f4 := cg4 id1
 rw [show JbU (.mk k a nm wv ws kv kids) = (Jc3 kids && JcJ k kids.length nm ws) from rfl]
 repeat refine Does.seq ?_
 refine Does.region ?_
 simp [f4, l4, lk]
 generalize hA : Jc3 kids = A
 refine Does.mono (Q := Jpq gl id1 st1 A) ?loop ?tail
 case loop => as_aux_lemma =>
  refine Does.block (Does.up kids.length (fun i fr st' => Keep st1 st' ∧ Jf3 gl id1 fr ∧ Fr.at fr 8 = kv ∧ Fr.at fr 9 = .int .i64 (kids.length : Int) ∧ Fr.at fr 10 = .int .i64 (i : Int) ∧ i ≤ kids.length ∧ Jc4 kids i) 0 ?init ?JH ?step)
  case init => exact ⟨.refl st1, ⟨by simp, by simp, by simp⟩, by simp, by simp, by simp, Nat.zero_le _, JgM _⟩
  case JH => exact fun i fr st' h => h.2.2.2.2.2.1
  case step =>
   rintro i fr st' ⟨hk, ⟨hds, hg, h1⟩, h8, h9, h10, hi, hall⟩
   have elen : ∀ kk, Je Tryz.prog kk .lss 3 (.int .i64 (i : Int)) (.int .i64 (kids.length : Int)) = some (.bool (decide (i < kids.length))) := fun kk => QN rfl
   repeat refine Does.seq ?_
   refine Does.region ?_
   by_cases hlt : i < kids.length
   rotate_left
   ·rw [decide_eq_false hlt] at elen
    simp [h9, h10, elen]
    repeat refine Does.seq ?_
    refine Does.condF (by simp) ?_
    refine Does.exit ?_
    simp only [inBlock, if_true, andThen]
    exact .inr ⟨rfl, hk, ⟨by simp [hds], by simp [hg], by simp [h1]⟩, by rw [← hA]; exact Jiy hall (by omega)⟩
   ·rw [decide_eq_true hlt] at elen
    obtain ⟨r, g1⟩ := hkv.get (z := 5) (fun c _ => c.len5) Tryz.underlying23 z25 hlt
    have i1 := g1 .i64
    have hm := List.getElem_mem hlt
    have hld := JdE kids[i] r st'
    have hpk := Jc5 st' kids[i]
    have hpb := JdK st' kids[i]
    have hps := JcD st' (hks _ hm)
    have hl2 := JbG hpb
    obtain ⟨v, st2, hc, rfl, hk2⟩ := ih _ hm (hks' _ hm) (Jcd st' kids[i])
    have hc := Jh hc
    have hstep := fun h => JgN hall hlt h
    have hnot := fun h => Jkp hlt h
    generalize Jcd st' kids[i] = st3 at hpk hps hl2 hc hk2
    clear hpb
    generalize JbU kids[i] = mb at hc hstep hnot
    generalize kids[i].cells = cs at hld hc i1 hps hl2
    have w1 : IntKind.i64.wrap ((i : Int) + 1) = (i : Int) + 1 := Jp (by omega) (by omega)
    simp [h9, h10, elen]
    repeat refine Does.seq ?_
    refine Does.condT (by simp) ?_
    refine Does.skip ?_
    simp
    repeat refine Does.seq ?_
    refine Does.block ?_
    repeat refine Does.seq ?_
    refine Does.region ?_
    simp [h8, h10, i1, hld, Jv, Jeu, V.cells, Ju, JM, Qe, hps]
    repeat refine Does.seq ?_
    refine Does.region ?_
    simp [hl2, hg, Ja hk11, hc]
    repeat refine Does.seq ?_
    cases mb with
    | false =>
     refine Does.condT (by simp) ?_
     repeat refine Does.seq ?_
     refine Does.region ?_
     simp
     refine Does.ret ?_
     simp only [andThen, inBlock]
     exact .inl ⟨rfl, (hk.trans hpk).trans hk2, by simp [hds], by simp, by rw [← hA]; exact hnot rfl⟩
    | true =>
     refine Does.condF (by simp) ?_
     refine Does.skip ?_
     simp only [andThen, inBlock]
     refine Does.region ?_
     simp [h10, Jq, w1]
     exact ⟨i + 1, by omega, (hk.trans hpk).trans hk2, ⟨by simp [hds], by simp [hg], by simp [h1]⟩, by simp [h8], by simp [h9], by simp, by omega, hstep rfl⟩
 case tail => as_aux_lemma =>
  rintro e fr st2 (⟨rfl, hk, hds, h2, rfl⟩ | ⟨rfl, hk, ⟨hds, hg, h1⟩, rfl⟩)
  ·simp only [andThen]
   simp [hds, h2]
   exact hk1.trans hk
  simp only [andThen, Bool.true_and]
  have b2 : st2.box.get id1 = some (.cells [.int .u8 (k : Int), .int .i64 a, .str nm, wv, kv] 25 true (some 0)) := by rw [hk.box _ hct]; exact b1
  have m0 := Jf (P := Tryz.prog) (off := 0) sa5 sz5 b2 rfl
  have m2 := Jf (P := Tryz.prog) (off := 2) sa9 sz9 b2 rfl
  have m3 := Jf (P := Tryz.prog) (off := 3) Je2 Je1 b2 rfl
  have m4 := Jf (P := Tryz.prog) (off := 4) JfK JfJ b2 rfl
  have m25 : JB Tryz.prog st2 25 (.ptr id1 0) = some (.agg [.int .u8 (k : Int), .int .i64 a, .str nm, wv, kv]) := JbG (c := .mk k a nm wv ws kv kids) b2
  have hk12 := hk1.trans hk
  have hemp := QH nm
  have e0 : ∀ kk, Je Tryz.prog kk .eql 3 (.int .i64 (ws.length : Int)) (.int .i64 0) = some (.bool (decide (ws.length = 0))) := fun kk => JE rfl
  repeat refine Does.seq ?_
  refine Does.region ?_
  simp [h1, f4, m4, lk]
  repeat refine Does.seq ?_
  refine Does.mono (Q := fun e fr st' => e = AE.normal ∧ Jad st2 st' ∧ Jn9 gl id1 kids.length (JeT nm ws) fr) ?r8 ?t8
  case r8 => as_aux_lemma =>
   refine Does.region ?_
   unfold JeT
   generalize decide (nm.n = 0) = D at hemp
   generalize decide (ws.length = 0) = E at e0
   cases D with
   | false =>
    simp [h1, f2, m2, Ji, hemp]
    exact ⟨rfl, ⟨by simp [hds], by simp [hg], by simp [h1]⟩, by simp, by simp⟩
   | true =>
    simp [h1, f2, m2, Ji, hemp, f3, m3, lx, e0]
    exact ⟨rfl, ⟨by simp [hds], by simp [hg], by simp [h1]⟩, by simp, by simp⟩
  case t8 => as_aux_lemma =>
  clear hds hg h1 hemp e0
  rintro e fr st' ⟨rfl, hst', ⟨hds, hg, h1⟩, h5, h6⟩
  rw [show st' = st2 from hst']
  clear hst'
  simp only [andThen]
  repeat refine Does.seq ?_
  refine Does.region ?_
  refine Oks.cont (Q := fun fr st' => Jad st2 st' ∧ Jn9 gl id1 kids.length (JeT nm ws) fr ∧ Fr.at fr 31 = .int .u8 (k : Int)) ?r9 ?t9
  case r9 => as_aux_lemma =>
   simp [h1, f0, m0]
   exact ⟨rfl, ⟨by simp [hds], by simp [hg], by simp [h1]⟩, by simp [h5], by simp [h6]⟩
  case t9 => as_aux_lemma =>
  clear hds hg h1 h5 h6
  rintro fr st' ⟨hst', ⟨⟨hds, hg, h1⟩, h5, h6⟩, h31⟩
  rw [show st' = st2 from hst']
  clear hst'
  simp only [andThen]
  repeat refine Does.seq ?_
  generalize hB : JeT nm ws = bare at h6
  refine Does.mono (Q := Jn8 st2 (JcJ k kids.length nm ws)) ?blk ?fin
  case fin => as_aux_lemma =>
   rintro e fr st' (⟨rfl, hk', hds, h2⟩ | ⟨rfl, hk', hds, hb⟩)
   ·simp only [andThen]
    simp [hds, h2]
    exact hk12.trans hk'
   ·simp only [andThen]
    repeat refine Does.seq ?_
    refine Does.region ?_
    simp
    refine Does.ret ?_
    simp [hds, hb]
    exact hk12.trans hk'
  case blk => as_aux_lemma =>
   have e1 : ∀ kk, Je Tryz.prog kk .eql 5 (.int .u8 (k : Int)) (.int .u8 1) = some (.bool (decide (k = 1))) := fun kk => JE rfl
   have e2 : ∀ kk, Je Tryz.prog kk .eql 5 (.int .u8 (k : Int)) (.int .u8 2) = some (.bool (decide (k = 2))) := fun kk => JE rfl
   have e3 : ∀ kk, Je Tryz.prog kk .eql 5 (.int .u8 (k : Int)) (.int .u8 3) = some (.bool (decide (k = 3))) := fun kk => JE rfl
   have e4 : ∀ kk, Je Tryz.prog kk .eql 5 (.int .u8 (k : Int)) (.int .u8 4) = some (.bool (decide (k = 4))) := fun kk => JE rfl
   have e5 : ∀ kk, Je Tryz.prog kk .eql 5 (.int .u8 (k : Int)) (.int .u8 5) = some (.bool (decide (k = 5))) := fun kk => JE rfl
   have e6 : ∀ kk, Je Tryz.prog kk .eql 5 (.int .u8 (k : Int)) (.int .u8 6) = some (.bool (decide (k = 6))) := fun kk => JE rfl
   have e7 : ∀ kk, Je Tryz.prog kk .eql 5 (.int .u8 (k : Int)) (.int .u8 7) = some (.bool (decide (k = 7))) := fun kk => JE rfl
   have e8 : ∀ kk, Je Tryz.prog kk .eql 5 (.int .u8 (k : Int)) (.int .u8 8) = some (.bool (decide (k = 8))) := fun kk => JE rfl
   have e9 : ∀ kk, Je Tryz.prog kk .eql 5 (.int .u8 (k : Int)) (.int .u8 9) = some (.bool (decide (k = 9))) := fun kk => JE rfl
   have n0 : ∀ kk, Je Tryz.prog kk .eql 3 (.int .i64 (kids.length : Int)) (.int .i64 0) = some (.bool (decide (kids.length = 0))) := fun kk => JE rfl
   have n1 : ∀ kk, Je Tryz.prog kk .eql 3 (.int .i64 (kids.length : Int)) (.int .i64 1) = some (.bool (decide (kids.length = 1))) := fun kk => JE rfl
   have n2 : ∀ kk, Je Tryz.prog kk .eql 3 (.int .i64 (kids.length : Int)) (.int .i64 2) = some (.bool (decide (kids.length = 2))) := fun kk => JE rfl
   have n3 : ∀ kk, Je Tryz.prog kk .eql 3 (.int .i64 (kids.length : Int)) (.int .i64 3) = some (.bool (decide (kids.length = 3))) := fun kk => JE rfl
   have g2 : ∀ kk, Je Tryz.prog kk .geq 3 (.int .i64 (kids.length : Int)) (.int .i64 2) = some (.bool (decide (2 ≤ kids.length))) := fun kk => Jb4 rfl
   have e64 : ∀ kk, Je Tryz.prog kk .leq 3 (.int .i64 (ws.length : Int)) (.int .i64 64) = some (.bool (decide (ws.length ≤ 64))) := fun kk => JbL rfl
   obtain ⟨v, st3, hc17, rfl, hk3⟩ := Ji9 gl hh st2 k a nm wv ws kv hn hwl hwz okv hw hws hws'
   have hc17 := Jh hc17
   have hc18 := Jh (Jn5 gl st2 nm (by omega))
   obtain ⟨v, st4, hc19, rfl, hk4⟩ := Jkd gl hh st2 wv ws hw hws hws' hwl
   have hc19 := Jh hc19
   unfold JcJ Jko
   rw [hB]
   unfold Jln
   generalize (decide (k = 1)) = d1 at e1
   generalize (decide (k = 2)) = d2 at e2
   generalize (decide (k = 3)) = d3 at e3
   generalize (decide (k = 4)) = d4 at e4
   generalize (decide (k = 5)) = d5 at e5
   generalize (decide (k = 6)) = d6 at e6
   generalize (decide (k = 7)) = d7 at e7
   generalize (decide (k = 8)) = d8 at e8
   generalize (decide (k = 9)) = d9 at e9
   generalize decide (kids.length = 0) = q0 at n0
   generalize decide (kids.length = 1) = q1 at n1
   generalize decide (kids.length = 2) = q2 at n2
   generalize decide (kids.length = 3) = q3 at n3
   generalize decide (2 ≤ kids.length) = r2 at g2
   generalize decide (ws.length ≤ 64) = r64 at e64
   generalize Jbo nm ws = sim at hc17
   generalize QR nm.toList = nl at hc18
   generalize ws.all Ww.may = al at hc19
   generalize (kids.length : Int) = kl at h5 n0 n1 n2 n3 g2
   generalize (k : Int) = ki at h31 e1 e2 e3 e4 e5 e6 e7 e8 e9 m25 hc17
   generalize V.agg [.int .u8 ki, .int .i64 a, .str nm, wv, kv] = cv at m25 hc17
   generalize hBB : (cond d1 _ _) = BB
   clear hk11 hn hws' hwl hkl hwz hkz hw hws hkv hks ih hks' hk1 b1 hct l4 f0 f4 hk b2 m0 m4 hk12 hh
   refine Does.block ?_
   repeat refine Does.seq ?_
   refine Does.region ?_
   cases d1 with
   | true =>
    simp [h31, e1]
    repeat refine Does.seq ?_
    refine Does.condT (by simp) ?_
    repeat refine Does.seq ?_
    refine Does.region ?_
    cases q0 with
    | false =>
     simp [h5, n0]
     refine Does.ret ?_
     simp only [inBlock]
     exact .inl ⟨rfl, .refl _, by simp [hds], by rw [← hBB]; simp⟩
    | true =>
     simp [h5, n0, h1, m25, hg, Ja hk17, hc17]
     refine Does.ret ?_
     simp only [inBlock]
     exact .inl ⟨rfl, hk3, by simp [hds], by rw [← hBB]; simp⟩
   | false =>
   simp [h31, e1]
   repeat refine Does.seq ?_
   refine Does.condF (by simp) ?_
   repeat refine Does.seq ?_
   refine Does.region ?_
   cases d2 with
   | true =>
    simp [h31, e2]
    repeat refine Does.seq ?_
    refine Does.condT (by simp) ?_
    repeat refine Does.seq ?_
    refine Does.region ?_
    cases bare <;> simp [h5, h6, n1] <;> refine Does.ret ?_ <;> simp only [inBlock] <;> exact .inl ⟨rfl, .refl _, by simp [hds], by rw [← hBB]; simp⟩
   | false =>
   simp [h31, e2]
   repeat refine Does.seq ?_
   refine Does.condF (by simp) ?_
   repeat refine Does.seq ?_
   refine Does.region ?_
   refine Oks.cont (Q := fun fr st' => JmS gl id1 ki kl bare st2 d3 AE.normal fr st') ?r14a ?t14a
   case r14a => as_aux_lemma =>
    simp [h31, e3]
    exact ⟨rfl, rfl, ⟨by simp [hds], by simp [hg], by simp [h1]⟩, by simp [h5], by simp [h6], by simp [h31], by simp⟩
   case t14a => as_aux_lemma =>
   clear hds hg h1 h5 h6 h31
   rintro fr st' ⟨_, hst', ⟨hds, hg, h1⟩, h5, h6, h31, h47⟩
   rw [show st' = st2 from hst']
   clear hst'
   simp only [andThen]
   repeat refine Does.seq ?_
   refine Does.mono (Q := JmS gl id1 ki kl bare st2 (cond d3 true (cond d4 true (cond d7 true d8)))) ?r14 ?t14
   case r14 => as_aux_lemma =>
    cases d3 with
    | true =>
     refine Does.condT (by simp [h47]) ?_
     refine Does.skip ?_
     exact ⟨rfl, rfl, ⟨by simp [hds], by simp [hg], by simp [h1]⟩, by simp [h5], by simp [h6], by simp [h31], by simp [h47]⟩
    | false =>
    refine Does.condF (by simp [h47]) ?_
    repeat refine Does.seq ?_
    refine Does.region ?_
    cases d4 with
    | true =>
     simp [h31, e4]
     repeat refine Does.seq ?_
     refine Does.condT (by simp) ?_
     refine Does.skip ?_
     exact ⟨rfl, rfl, ⟨by simp [hds], by simp [hg], by simp [h1]⟩, by simp [h5], by simp [h6], by simp [h31], by simp⟩
    | false =>
    simp [h31, e4]
    repeat refine Does.seq ?_
    refine Does.condF (by simp) ?_
    repeat refine Does.seq ?_
    refine Does.region ?_
    cases d7 with
    | true =>
     simp [h31, e7]
     repeat refine Does.seq ?_
     refine Does.condT (by simp) ?_
     refine Does.skip ?_
     exact ⟨rfl, rfl, ⟨by simp [hds], by simp [hg], by simp [h1]⟩, by simp [h5], by simp [h6], by simp [h31], by simp⟩
    | false =>
    simp [h31, e7]
    repeat refine Does.seq ?_
    refine Does.condF (by simp) ?_
    repeat refine Does.seq ?_
    refine Does.region ?_
    simp [h31, e8]
    exact ⟨rfl, rfl, ⟨by simp [hds], by simp [hg], by simp [h1]⟩, by simp [h5], by simp [h6], by simp [h31], by simp⟩
   case t14 => as_aux_lemma =>
    clear hds hg h1 h5 h6 h31
    rintro e fr st' ⟨rfl, hst', ⟨hds, hg, h1⟩, h5, h6, h31, h47⟩
    rw [show st' = st2 from hst']
    clear hst'
    simp only [andThen]
    repeat refine Does.seq ?_
    generalize (cond d3 true (cond d4 true (cond d7 true d8))) = d at h47 hBB
    cases d with
    | true =>
     refine Does.condT (by simp [h47]) ?_
     repeat refine Does.seq ?_
     refine Does.region ?_
     cases bare <;> simp [h5, h6, n2] <;> refine Does.ret ?_ <;> simp only [inBlock] <;> exact .inl ⟨rfl, .refl _, by simp [hds], by rw [← hBB]; simp⟩
    | false =>
    refine Does.condF (by simp [h47]) ?_
    repeat refine Does.seq ?_
    refine Does.region ?_
    cases d5 with
    | true =>
     simp [h31, e5]
     repeat refine Does.seq ?_
     refine Does.condT (by simp) ?_
     repeat refine Does.seq ?_
     refine Does.region ?_
     cases bare <;> simp [h5, h6, g2] <;> refine Does.ret ?_ <;> simp only [inBlock] <;> exact .inl ⟨rfl, .refl _, by simp [hds], by rw [← hBB]; simp⟩
    | false =>
    simp [h31, e5]
    repeat refine Does.seq ?_
    refine Does.condF (by simp) ?_
    repeat refine Does.seq ?_
    refine Does.region ?_
    cases d6 with
    | true =>
     simp [h31, e6]
     repeat refine Does.seq ?_
     refine Does.condT (by simp) ?_
     repeat refine Does.seq ?_
     refine Does.region ?_
     cases bare <;> cases q2 <;> simp [h5, h6, n2, n3] <;> refine Does.ret ?_ <;> simp only [inBlock] <;> exact .inl ⟨rfl, .refl _, by simp [hds], by rw [← hBB]; simp⟩
    | false =>
    simp [h31, e6]
    repeat refine Does.seq ?_
    refine Does.condF (by simp) ?_
    repeat refine Does.seq ?_
    refine Does.region ?_
    cases d9 with
    | false =>
     simp [h31, e9]
     repeat refine Does.seq ?_
     refine Does.condF (by simp) ?_
     refine Does.skip ?_
     simp only [inBlock]
     exact .inr ⟨rfl, .refl _, by simp [hds], by rw [← hBB]; rfl⟩
    | true =>
     simp [h31, e9]
     repeat refine Does.seq ?_
     refine Does.condT (by simp) ?_
     repeat refine Does.seq ?_
     refine Does.region ?_
     cases q1 with
     | false =>
      simp [h5, n1]
      refine Does.ret ?_
      simp only [inBlock]
      exact .inl ⟨rfl, .refl _, by simp [hds], by rw [← hBB]; simp⟩
     | true =>
     cases nl with
     | false =>
      simp [h5, n1, h1, f2, m2, hg, Ja hk18, hc18]
      refine Does.ret ?_
      simp only [inBlock]
      exact .inl ⟨rfl, .refl _, by simp [hds], by rw [← hBB]; simp⟩
     | true =>
     cases r64 with
     | false =>
      simp [h5, n1, h1, f2, m2, hg, Ja hk18, hc18, f3, m3, lx, e64]
      refine Does.ret ?_
      simp only [inBlock]
      exact .inl ⟨rfl, .refl _, by simp [hds], by rw [← hBB]; simp⟩
     | true =>
      simp [h5, n1, h1, f2, m2, hg, Ja hk18, hc18, f3, m3, lx, e64, Ja hk19, hc19]
      refine Does.ret ?_
      simp only [inBlock]
      exact .inl ⟨rfl, hk4, by simp [hds], by rw [← hBB]; simp⟩
end Go.Vm
namespace Go.Vm
open Go Go.Proofs Go.Sy
set_option maxRecDepth 100000
attribute [local simp] Oks J8 Jj Jo vop Js Jy ev evs toV andThen inBlock Jn Fr.dsTo Fr.glTo Fr.toNone Jk Jl Jm J6 Jc Jz Jw V.undef JU J9 Qk
def JmT (d1 d2 d3 d4 d7 d8 d5 d6 d9 : Bool) (n : Nat) (bare sim fr : Bool) : Bool :=
 cond d1 (decide (n = 0) && sim) (cond d9 (decide (n = 1) && fr) (cond (!bare) false (cond d2 (decide (n = 1)) (cond (cond d3 true (cond d4 true (cond d7 true d8))) (decide (n = 2)) (cond d5 (decide (1 < n)) (cond d6 (decide (n = 2) || decide (n = 3)) false))))))
theorem JmU (k n : Nat) (nm : S) (ws : List Ww) : JcJ k n nm ws = JmT (decide (k = 1)) (decide (k = 2)) (decide (k = 3)) (decide (k = 4)) (decide (k = 7)) (decide (k = 8)) (decide (k = 5)) (decide (k = 6)) (decide (k = 9)) n (JeT nm ws) (Jbo nm ws) (Jln nm ws) := by
 unfold JcJ
 generalize JeT nm ws = b
 generalize Jbo nm ws = s
 generalize Jln nm ws = f
 have : decide (2 ≤ n) = decide (1 < n) := rfl
 unfold Jko JmT
 rw [this]
 by_cases h1 : k = 1
 ·subst h1; rfl
 by_cases h2 : k = 2
 ·subst h2; cases b <;> simp
 by_cases h3 : k = 3
 ·subst h3; cases b <;> simp
 by_cases h4 : k = 4
 ·subst h4; cases b <;> simp
 by_cases h5 : k = 5
 ·subst h5; cases b <;> simp
 by_cases h6 : k = 6
 ·subst h6; cases b <;> simp
 by_cases h7 : k = 7
 ·subst h7; cases b <;> simp
 by_cases h8 : k = 8
 ·subst h8; cases b <;> simp
 by_cases h9 : k = 9
 ·subst h9; simp
 simp [h1, h2, h3, h4, h5, h6, h7, h8, h9]
def Jkq (gl : Gl) (id1 : Nat) (ki kl : Int) (st : St) (b : Bool) (e : AE) (fr : Fr) (st' : St) : Prop :=
 e = AE.normal ∧ Jad st st' ∧ Jf3 gl id1 fr ∧ Fr.at fr 4 = .int .i64 kl ∧ Fr.at fr 66 = .int .u8 ki ∧ Fr.at fr 71 = .bool b
variable [Memo] [NY]
set_option maxHeartbeats 1000000 in
theorem JnO (gl : Gl) (c : Cw) (hok : c.ok) : c.small → ∀ st : St,
  ∃ v st', W Tryz.prog (.call gl 38 [.agg c.cells]) st = .call (.val v st') ∧ v = .bool (JbU c) ∧ Keep st st' := by
 induction hok with
 | mk k a nm wv ws kv kids hk hw hws hkv hks ih =>
 intro hsm st
 cases hsm with
 | mk _ _ _ _ _ _ _ hn hwl hkl hwz hkz hws' hks' =>
 have hk12' : Jg Tryz.prog 38 = true := by kernel_rfl
 have hk17 : Jg Tryz.prog 66 = true := by kernel_rfl
 have hk18 : Jg Tryz.prog 67 = true := by kernel_rfl
 have hk19 : Jg Tryz.prog 68 = true := by kernel_rfl
 have ow := hw.one
 have okv := hkv.one
 have oi : ∀ k n, Ju (.int k n) = true := fun _ _ => rfl
 have os : ∀ s, Ju (.str s) = true := fun _ => rfl
 have lx := hw.len Tryz.underlying22
 have lk := hkv.len Tryz.underlying23
 refine J3 (NY.no _ rfl rfl rfl _ _) Tryz.func38 rfl (by kernel_rfl) ?_
 repeat refine Does.seq ?_
 refine Does.region ?_
 simp [Jv, V.cells, Cw.cells, ow, oi, os, okv, JM]
 have hk1 := Jas st k a nm wv kv
 have b1 := JaB st k a nm wv kv
 have hct := JaC st k a nm wv kv
 rw [show ({ ctr := st.ctr + 1, box := st.box.put st.ctr (.cells [.int .u8 (k : Int), .int .i64 a, .str nm, wv, kv] 25 true (some 0)) } : St) = Jap st k a nm wv kv from rfl]
 revert hk1 b1 hct
 generalize Jap st k a nm wv kv = st1
 generalize hid1 : st.ctr = id1
 intro hk1 b1 hct
 have l4 := Jf (P := Tryz.prog) (off := 4) JfK JfJ b1 rfl
 have f0 := cg0 id1
 have f2 := cg2 id1
 have f3 := cg3 id1
 have f4 := cg4 id1
 rw [show JbU (.mk k a nm wv ws kv kids) = (Jc3 kids && JcJ k kids.length nm ws) from rfl]
 repeat refine Does.seq ?_
 refine Does.region ?_
 simp
 generalize hA : Jc3 kids = A
 refine Does.mono (Q := Jpq gl id1 st1 A) ?loop ?tail
 case loop => as_aux_lemma =>
  refine Does.block (Does.up kids.length (fun i fr st' => Keep st1 st' ∧ Jf3 gl id1 fr ∧ Fr.at fr 3 = .int .i64 (i : Int) ∧ i ≤ kids.length ∧ Jc4 kids i) 0 ?init ?JH ?step)
  case init => exact ⟨.refl st1, ⟨by simp, by simp, by simp⟩, by simp, Nat.zero_le _, JgM _⟩
  case JH => exact fun i fr st' h => h.2.2.2.1
  case step =>
   rintro i fr st' ⟨hk, ⟨hds, hg, h1⟩, h3, hi, hall⟩
   have elen : ∀ kk, Je Tryz.prog kk .lss 3 (.int .i64 (i : Int)) (.int .i64 (kids.length : Int)) = some (.bool (decide (i < kids.length))) := fun kk => QN rfl
   have b2 : st'.box.get id1 = some (.cells [.int .u8 (k : Int), .int .i64 a, .str nm, wv, kv] 25 true (some 0)) := by rw [hk.box _ hct]; exact b1
   have m4 := Jf (P := Tryz.prog) (off := 4) JfK JfJ b2 rfl
   repeat refine Does.seq ?_
   refine Does.region ?_
   by_cases hlt : i < kids.length
   rotate_left
   ·rw [decide_eq_false hlt] at elen
    simp [h1, h3, f4, m4, lk, elen]
    repeat refine Does.seq ?_
    refine Does.condF (by simp) ?_
    refine Does.exit ?_
    simp only [inBlock, if_true, andThen]
    exact .inr ⟨rfl, hk, ⟨by simp [hds], by simp [hg], by simp [h1]⟩, by rw [← hA]; exact Jiy hall (by omega)⟩
   ·rw [decide_eq_true hlt] at elen
    obtain ⟨r, g1⟩ := hkv.get (z := 5) (fun c _ => c.len5) Tryz.underlying23 z25 hlt
    have i1 := g1 .i64
    have hm := List.getElem_mem hlt
    have hld := JdE kids[i] r st'
    obtain ⟨v, st2, hc, rfl, hk2⟩ := ih _ hm (hks' _ hm) st'
    have hc := Jh hc
    have hstep := fun h => JgN hall hlt h
    have hnot := fun h => Jkp hlt h
    generalize JbU kids[i] = mb at hc hstep hnot
    generalize kids[i].cells = cs at hld hc i1
    have w1 : IntKind.i64.wrap ((i : Int) + 1) = (i : Int) + 1 := Jp (by omega) (by omega)
    simp [h1, h3, f4, m4, lk, elen]
    repeat refine Does.seq ?_
    refine Does.condT (by simp) ?_
    refine Does.skip ?_
    simp
    repeat refine Does.seq ?_
    refine Does.block ?_
    repeat refine Does.seq ?_
    refine Does.region ?_
    simp [h1, h3, f4, m4, i1, hld, hg, Ja hk12', hc]
    repeat refine Does.seq ?_
    cases mb with
    | false =>
     refine Does.condT (by simp) ?_
     repeat refine Does.seq ?_
     refine Does.region ?_
     simp
     refine Does.ret ?_
     simp only [andThen, inBlock]
     exact .inl ⟨rfl, hk.trans hk2, by simp [hds], by simp, by rw [← hA]; exact hnot rfl⟩
    | true =>
     refine Does.condF (by simp) ?_
     refine Does.skip ?_
     simp only [andThen, inBlock]
     refine Does.region ?_
     simp [h3, Jq, w1]
     exact ⟨i + 1, by omega, hk.trans hk2, ⟨by simp [hds], by simp [hg], by simp [h1]⟩, by simp, by omega, hstep rfl⟩
 case tail => as_aux_lemma =>
  rintro e fr st2 (⟨rfl, hk, hds, h2, rfl⟩ | ⟨rfl, hk, ⟨hds, hg, h1⟩, rfl⟩)
  ·simp only [andThen]
   simp [hds, h2]
   exact hk1.trans hk
  simp only [andThen, Bool.true_and]
  have b2 : st2.box.get id1 = some (.cells [.int .u8 (k : Int), .int .i64 a, .str nm, wv, kv] 25 true (some 0)) := by rw [hk.box _ hct]; exact b1
  have m0 := Jf (P := Tryz.prog) (off := 0) sa5 sz5 b2 rfl
  have m2 := Jf (P := Tryz.prog) (off := 2) sa9 sz9 b2 rfl
  have m3 := Jf (P := Tryz.prog) (off := 3) Je2 Je1 b2 rfl
  have m4 := Jf (P := Tryz.prog) (off := 4) JfK JfJ b2 rfl
  have m25 : JB Tryz.prog st2 25 (.ptr id1 0) = some (.agg [.int .u8 (k : Int), .int .i64 a, .str nm, wv, kv]) := JbG (c := .mk k a nm wv ws kv kids) b2
  have hk12 := hk1.trans hk
  have hemp := QH nm
  have e0 : ∀ kk, Je Tryz.prog kk .gtr 3 (.int .i64 (ws.length : Int)) (.int .i64 0) = some (.bool (!decide (ws.length = 0))) := fun kk => by
   have := Jbd (P := Tryz.prog) (kk := kk) (T := 3) (q := .i64) (c := ws.length) (m := 0) (k := 0) rfl
   rw [this]
   congr 2
   by_cases h : ws.length = 0
   ·rw [decide_eq_true h, h]; rfl
   ·rw [decide_eq_false h, decide_eq_true (by omega)]; rfl
  have e1 : ∀ kk, Je Tryz.prog kk .eql 5 (.int .u8 (k : Int)) (.int .u8 1) = some (.bool (decide (k = 1))) := fun kk => JE rfl
  have e2 : ∀ kk, Je Tryz.prog kk .eql 5 (.int .u8 (k : Int)) (.int .u8 2) = some (.bool (decide (k = 2))) := fun kk => JE rfl
  have e3 : ∀ kk, Je Tryz.prog kk .eql 5 (.int .u8 (k : Int)) (.int .u8 3) = some (.bool (decide (k = 3))) := fun kk => JE rfl
  have e4 : ∀ kk, Je Tryz.prog kk .eql 5 (.int .u8 (k : Int)) (.int .u8 4) = some (.bool (decide (k = 4))) := fun kk => JE rfl
  have e5 : ∀ kk, Je Tryz.prog kk .eql 5 (.int .u8 (k : Int)) (.int .u8 5) = some (.bool (decide (k = 5))) := fun kk => JE rfl
  have e6 : ∀ kk, Je Tryz.prog kk .eql 5 (.int .u8 (k : Int)) (.int .u8 6) = some (.bool (decide (k = 6))) := fun kk => JE rfl
  have e7 : ∀ kk, Je Tryz.prog kk .eql 5 (.int .u8 (k : Int)) (.int .u8 7) = some (.bool (decide (k = 7))) := fun kk => JE rfl
  have e8 : ∀ kk, Je Tryz.prog kk .eql 5 (.int .u8 (k : Int)) (.int .u8 8) = some (.bool (decide (k = 8))) := fun kk => JE rfl
  have e9 : ∀ kk, Je Tryz.prog kk .eql 5 (.int .u8 (k : Int)) (.int .u8 9) = some (.bool (decide (k = 9))) := fun kk => JE rfl
  have n0 : ∀ kk, Je Tryz.prog kk .eql 3 (.int .i64 (kids.length : Int)) (.int .i64 0) = some (.bool (decide (kids.length = 0))) := fun kk => JE rfl
  have n1 : ∀ kk, Je Tryz.prog kk .eql 3 (.int .i64 (kids.length : Int)) (.int .i64 1) = some (.bool (decide (kids.length = 1))) := fun kk => JE rfl
  have n2 : ∀ kk, Je Tryz.prog kk .eql 3 (.int .i64 (kids.length : Int)) (.int .i64 2) = some (.bool (decide (kids.length = 2))) := fun kk => JE rfl
  have n3 : ∀ kk, Je Tryz.prog kk .eql 3 (.int .i64 (kids.length : Int)) (.int .i64 3) = some (.bool (decide (kids.length = 3))) := fun kk => JE rfl
  have g2 : ∀ kk, Je Tryz.prog kk .gtr 3 (.int .i64 (kids.length : Int)) (.int .i64 1) = some (.bool (decide (1 < kids.length))) := fun kk => Jbd rfl
  have e64 : ∀ kk, Je Tryz.prog kk .leq 3 (.int .i64 (ws.length : Int)) (.int .i64 64) = some (.bool (decide (ws.length ≤ 64))) := fun kk => JbL rfl
  obtain ⟨v, st3, hc17, rfl, hk3⟩ := Jjx gl st2 k a nm wv ws kv hn hwl okv hw hws hws'
  have hc17 := Jh hc17
  have hc18 := Jh (Jmz gl st2 nm (by omega))
  obtain ⟨v, st4, hc19, rfl, hk4⟩ := JgG gl st2 wv ws hw hws hws' hwl
  have hc19 := Jh hc19
  rw [JmU]
  unfold JmT Jln JeT
  generalize (decide (k = 1)) = d1 at e1
  generalize (decide (k = 2)) = d2 at e2
  generalize (decide (k = 3)) = d3 at e3
  generalize (decide (k = 4)) = d4 at e4
  generalize (decide (k = 5)) = d5 at e5
  generalize (decide (k = 6)) = d6 at e6
  generalize (decide (k = 7)) = d7 at e7
  generalize (decide (k = 8)) = d8 at e8
  generalize (decide (k = 9)) = d9 at e9
  generalize decide (kids.length = 0) = q0 at n0
  generalize decide (kids.length = 1) = q1 at n1
  generalize decide (kids.length = 2) = q2 at n2
  generalize decide (kids.length = 3) = q3 at n3
  generalize decide (1 < kids.length) = r2 at g2
  generalize decide (ws.length ≤ 64) = r64 at e64
  generalize Jbo nm ws = sim at hc17
  generalize QR nm.toList = nl at hc18
  generalize ws.all Ww.may = al at hc19
  generalize decide (nm.n = 0) = D at hemp
  generalize decide (ws.length = 0) = E at e0
  generalize (ws.length : Int) = wl at e0 e64 lx
  generalize (kids.length : Int) = kl at lk n0 n1 n2 n3 g2
  generalize (k : Int) = ki at e1 e2 e3 e4 e5 e6 e7 e8 e9 m25 hc17 m0 b1 b2
  generalize V.agg [.int .u8 ki, .int .i64 a, .str nm, wv, kv] = cv at m25 hc17
  generalize hBB : (cond d1 _ _) = BB
  clear hk12' hn hws' hwl hkl hwz hkz hw hws hkv hks ih hks' b1 hct l4 hk b2
  repeat refine Does.seq ?_
  refine Does.region ?_
  cases d1 with
  | true =>
   simp [h1, f0, m0, e1]
   repeat refine Does.seq ?_
   refine Does.condT (by simp) ?_
   repeat refine Does.seq ?_
   refine Does.region ?_
   cases q0 with
   | false =>
    simp [h1, f4, m4, lk, n0]
    refine Does.ret ?_
    simp [hds, ← hBB]
    exact hk12
   | true =>
    simp [h1, f4, m4, lk, n0, m25, hg, Ja hk17, hc17]
    refine Does.ret ?_
    simp [hds, ← hBB]
    exact hk12.trans hk3
  | false =>
  simp [h1, f0, m0, e1]
  repeat refine Does.seq ?_
  refine Does.condF (by simp) ?_
  refine Does.skip ?_
  simp
  repeat refine Does.seq ?_
  refine Does.region ?_
  cases d9 with
  | true =>
   simp [h1, f0, m0, e9]
   repeat refine Does.seq ?_
   refine Does.condT (by simp) ?_
   repeat refine Does.seq ?_
   refine Does.region ?_
   cases q1 with
   | false =>
    simp [h1, f4, m4, lk, n1]
    refine Does.ret ?_
    simp [hds, ← hBB]
    exact hk12
   | true =>
   cases nl with
   | false =>
    simp [h1, f4, m4, lk, n1, f2, m2, hg, Ja hk18, hc18]
    refine Does.ret ?_
    simp [hds, ← hBB]
    exact hk12
   | true =>
   cases r64 with
   | false =>
    simp [h1, f4, m4, lk, n1, f2, m2, hg, Ja hk18, hc18, f3, m3, lx, e64]
    refine Does.ret ?_
    simp [hds, ← hBB]
    exact hk12
   | true =>
    simp [h1, f4, m4, lk, n1, f2, m2, hg, Ja hk18, hc18, f3, m3, lx, e64, Ja hk19, hc19]
    refine Does.ret ?_
    simp [hds, ← hBB]
    exact hk12.trans hk4
  | false =>
  simp [h1, f0, m0, e9]
  repeat refine Does.seq ?_
  refine Does.condF (by simp) ?_
  refine Does.skip ?_
  simp
  repeat refine Does.seq ?_
  refine Does.region ?_
  refine Oks.cont (Q := fun fr st' => Jad st2 st' ∧ Jf3 gl id1 fr ∧ Fr.at fr 61 = .bool (!(D && E))) ?r10 ?t10
  case r10 => as_aux_lemma =>
   cases D with
   | false =>
    simp [h1, f2, m2, Jt, hemp]
    exact ⟨rfl, by simp [hds], by simp [hg], by simp [h1]⟩
   | true =>
    simp [h1, f2, m2, Jt, hemp, f3, m3, lx, e0]
    exact ⟨rfl, by simp [hds], by simp [hg], by simp [h1]⟩
  case t10 => as_aux_lemma =>
  clear hds hg h1
  rintro fr st' ⟨hst', ⟨hds, hg, h1⟩, h61⟩
  rw [show st' = st2 from hst']
  clear hst'
  simp only [andThen]
  repeat refine Does.seq ?_
  generalize (D && E) = bare at h61 hBB
  cases bare with
  | false =>
   refine Does.condT (by simp [h61]) ?_
   repeat refine Does.seq ?_
   refine Does.region ?_
   simp
   refine Does.ret ?_
   simp [hds, ← hBB]
   exact hk12
  | true =>
  refine Does.condF (by simp [h61]) ?_
  refine Does.skip ?_
  simp only [andThen]
  repeat refine Does.seq ?_
  refine Does.region ?_
  simp [h1, f4, m4, lk]
  repeat refine Does.seq ?_
  refine Does.region ?_
  refine Oks.cont (Q := fun fr st' => Jad st2 st' ∧ Jf3 gl id1 fr ∧ Fr.at fr 4 = .int .i64 kl ∧ Fr.at fr 66 = .int .u8 ki) ?r13 ?t13
  case r13 => as_aux_lemma =>
   simp [h1, f0, m0]
   exact ⟨rfl, by simp [hds], by simp [hg], by simp [h1]⟩
  case t13 => as_aux_lemma =>
  clear hds hg h1 h61
  rintro fr st' ⟨hst', ⟨hds, hg, h1⟩, h4, h66⟩
  rw [show st' = st2 from hst']
  clear hst'
  simp only [andThen]
  repeat refine Does.seq ?_
  refine Does.mono (Q := Jn8 st2 BB) ?blk ?fin
  case fin => as_aux_lemma =>
   rintro e fr st' (⟨rfl, hk', hds, h2⟩ | ⟨rfl, hk', hds, hb⟩)
   ·simp only [andThen]
    simp [hds, h2]
    exact hk12.trans hk'
   ·simp only [andThen]
    repeat refine Does.seq ?_
    refine Does.region ?_
    simp
    refine Does.ret ?_
    simp [hds, hb]
    exact hk12.trans hk'
  case blk => as_aux_lemma =>
   refine Does.block ?_
   repeat refine Does.seq ?_
   refine Does.region ?_
   cases d2 with
   | true =>
    simp [h66, e2]
    repeat refine Does.seq ?_
    refine Does.condT (by simp) ?_
    repeat refine Does.seq ?_
    refine Does.region ?_
    simp [h4, n1]
    refine Does.ret ?_
    simp only [inBlock]
    exact .inl ⟨rfl, .refl _, by simp [hds], by rw [← hBB]; simp⟩
   | false =>
   simp [h66, e2]
   repeat refine Does.seq ?_
   refine Does.condF (by simp) ?_
   repeat refine Does.seq ?_
   refine Does.region ?_
   refine Oks.cont (Q := fun fr st' => Jkq gl id1 ki kl st2 d3 AE.normal fr st') ?r14a ?t14a
   case r14a => as_aux_lemma =>
    simp [h66, e3]
    exact ⟨rfl, rfl, ⟨by simp [hds], by simp [hg], by simp [h1]⟩, by simp [h4], by simp [h66], by simp⟩
   case t14a => as_aux_lemma =>
   clear hds hg h1 h4 h66
   rintro fr st' ⟨_, hst', ⟨hds, hg, h1⟩, h4, h66, h71⟩
   rw [show st' = st2 from hst']
   clear hst'
   simp only [andThen]
   repeat refine Does.seq ?_
   refine Does.mono (Q := Jkq gl id1 ki kl st2 (cond d3 true (cond d4 true (cond d7 true d8)))) ?r14 ?t14
   case r14 => as_aux_lemma =>
    cases d3 with
    | true =>
     refine Does.condT (by simp [h71]) ?_
     refine Does.skip ?_
     exact ⟨rfl, rfl, ⟨by simp [hds], by simp [hg], by simp [h1]⟩, by simp [h4], by simp [h66], by simp [h71]⟩
    | false =>
    refine Does.condF (by simp [h71]) ?_
    repeat refine Does.seq ?_
    refine Does.region ?_
    cases d4 with
    | true =>
     simp [h66, e4]
     repeat refine Does.seq ?_
     refine Does.condT (by simp) ?_
     refine Does.skip ?_
     exact ⟨rfl, rfl, ⟨by simp [hds], by simp [hg], by simp [h1]⟩, by simp [h4], by simp [h66], by simp⟩
    | false =>
    simp [h66, e4]
    repeat refine Does.seq ?_
    refine Does.condF (by simp) ?_
    repeat refine Does.seq ?_
    refine Does.region ?_
    cases d7 with
    | true =>
     simp [h66, e7]
     repeat refine Does.seq ?_
     refine Does.condT (by simp) ?_
     refine Does.skip ?_
     exact ⟨rfl, rfl, ⟨by simp [hds], by simp [hg], by simp [h1]⟩, by simp [h4], by simp [h66], by simp⟩
    | false =>
    simp [h66, e7]
    repeat refine Does.seq ?_
    refine Does.condF (by simp) ?_
    repeat refine Does.seq ?_
    refine Does.region ?_
    simp [h66, e8]
    exact ⟨rfl, rfl, ⟨by simp [hds], by simp [hg], by simp [h1]⟩, by simp [h4], by simp [h66], by simp⟩
   case t14 => as_aux_lemma =>
    clear hds hg h1 h4 h66 h71
    rintro e fr st' ⟨rfl, hst', ⟨hds, hg, h1⟩, h4, h66, h71⟩
    rw [show st' = st2 from hst']
    clear hst'
    simp only [andThen]
    repeat refine Does.seq ?_
    generalize (cond d3 true (cond d4 true (cond d7 true d8))) = d at h71 hBB
    cases d with
    | true =>
     refine Does.condT (by simp [h71]) ?_
     repeat refine Does.seq ?_
     refine Does.region ?_
     simp [h4, n2]
     refine Does.ret ?_
     simp only [inBlock]
     exact .inl ⟨rfl, .refl _, by simp [hds], by rw [← hBB]; simp⟩
    | false =>
    refine Does.condF (by simp [h71]) ?_
    repeat refine Does.seq ?_
    refine Does.region ?_
    cases d5 with
    | true =>
     simp [h66, e5]
     repeat refine Does.seq ?_
     refine Does.condT (by simp) ?_
     repeat refine Does.seq ?_
     refine Does.region ?_
     simp [h4, g2]
     refine Does.ret ?_
     simp only [inBlock]
     exact .inl ⟨rfl, .refl _, by simp [hds], by rw [← hBB]; simp⟩
    | false =>
    simp [h66, e5]
    repeat refine Does.seq ?_
    refine Does.condF (by simp) ?_
    repeat refine Does.seq ?_
    refine Does.region ?_
    cases d6 with
    | false =>
     simp [h66, e6]
     repeat refine Does.seq ?_
     refine Does.condF (by simp) ?_
     refine Does.skip ?_
     simp only [inBlock]
     exact .inr ⟨rfl, .refl _, by simp [hds], by rw [← hBB]; rfl⟩
    | true =>
     simp [h66, e6]
     repeat refine Does.seq ?_
     refine Does.condT (by simp) ?_
     repeat refine Does.seq ?_
     refine Does.region ?_
     cases q2 <;> simp [h4, n2, n3] <;> refine Does.ret ?_ <;> simp only [inBlock] <;> exact .inl ⟨rfl, .refl _, by simp [hds], by rw [← hBB]; simp⟩
end Go.Vm
namespace Go.Vm
open Go Go.Proofs Go.Sy
set_option maxRecDepth 100000
attribute [local simp] Oks J8 Jj Jo vop Js Jy ev evs toV andThen inBlock Jn Fr.dsTo Fr.glTo Fr.toNone Jk Jl Jm J6 Jc Jz Jw V.undef JU J9 Qk
def mx (a b : Int) : Int := if b > a then b else a
theorem Jpr (a b : Int) : QJ Tryz.prog (fun l => Builtin.max_ #[] 0 l.toArray) [.int .i64 a, .int .i64 b] = some (.int .i64 (mx a b)) := rfl
mutual
def Jce : Cw → Int
 | .mk _ _ _ _ _ _ kids => IntKind.i64.wrap (Jdu kids 0 + 1)
def Jdu : List Cw → Int → Int
 | [], m => m
 | c :: r, m => Jdu r (mx m (Jce c))
end
def Jc6 (ks : List Cw) (i : Nat) : Int := (ks.take i).foldl (fun m c => mx m (Jce c)) 0
theorem JeU : ∀ (ks : List Cw) (m : Int), Jdu ks m = ks.foldl (fun m c => mx m (Jce c)) m
 | [], m => by simp [Jdu]
 | c :: r, m => by rw [Jdu, JeU r]; rfl
theorem Jkr {ks : List Cw} {i : Nat} (hi : ks.length ≤ i) : Jc6 ks i = Jdu ks 0 := by
 rw [JeU]; unfold Jc6; rw [List.take_of_length_le hi]
theorem Jiz {ks : List Cw} {i : Nat} (hi : i < ks.length) : Jc6 ks (i + 1) = mx (Jc6 ks i) (Jce ks[i]) := by
 unfold Jc6
 rw [List.take_add_one, List.getElem?_eq_getElem hi, List.foldl_append]
 rfl
def Jps (gl : Gl) (id1 : Nat) (st : St) (n : Int) (e : AE) (fr : Fr) (st' : St) : Prop := e = AE.normal ∧ Keep st st' ∧ Jf3 gl id1 fr ∧ Fr.at fr 3 = .int .i64 n
variable [Memo] [NY]
set_option maxHeartbeats 1000000 in
theorem JnP (gl : Gl) (c : Cw) (hok : c.ok) : c.small → ∀ st : St,
  ∃ v st', W Tryz.prog (.call gl 27 [.agg c.cells]) st = .call (.val v st') ∧ v = .int .i64 (Jce c) ∧ Keep st st' := by
 induction hok with
 | mk k a nm wv ws kv kids hk hw hws hkv hks ih =>
 intro hsm st
 cases hsm with
 | mk _ _ _ _ _ _ _ hn hwl hkl hwz hkz hws' hks' =>
 have hk11 : Jg Tryz.prog 27 = true := by kernel_rfl
 have ow := hw.one
 have okv := hkv.one
 have oi : ∀ k n, Ju (.int k n) = true := fun _ _ => rfl
 have os : ∀ s, Ju (.str s) = true := fun _ => rfl
 have lx := hw.len Tryz.underlying22
 have lk := hkv.len Tryz.underlying23
 refine J3 (NY.no _ rfl rfl rfl _ _) Tryz.func27 rfl (by kernel_rfl) ?_
 repeat refine Does.seq ?_
 refine Does.region ?_
 simp [Jv, V.cells, Cw.cells, ow, oi, os, okv, JM]
 have hk1 := Jas st k a nm wv kv
 have b1 := JaB st k a nm wv kv
 have hct := JaC st k a nm wv kv
 rw [show ({ ctr := st.ctr + 1, box := st.box.put st.ctr (.cells [.int .u8 (k : Int), .int .i64 a, .str nm, wv, kv] 25 true (some 0)) } : St) = Jap st k a nm wv kv from rfl]
 revert hk1 b1 hct
 generalize Jap st k a nm wv kv = st1
 generalize hid1 : st.ctr = id1
 intro hk1 b1 hct
 have l4 := Jf (P := Tryz.prog) (off := 4) JfK JfJ b1 rfl
 have f0 := cg0 id1
 have f2 := cg2 id1
 have f3 := cg3 id1
 have f4 := cg4 id1
 rw [show Jce (.mk k a nm wv ws kv kids) = IntKind.i64.wrap (Jdu kids 0 + 1) from rfl]
 repeat refine Does.seq ?_
 refine Does.region ?_
 simp
 repeat refine Does.seq ?_
 refine Does.region ?_
 simp [f4, l4, lk]
 refine Does.mono (Q := Jps gl id1 st1 (Jdu kids 0)) ?loop ?tail
 case loop => as_aux_lemma =>
  refine Does.block (Does.up kids.length (fun i fr st' => Keep st1 st' ∧ Jf3 gl id1 fr ∧ Fr.at fr 3 = .int .i64 (Jc6 kids i) ∧ Fr.at fr 7 = kv ∧ Fr.at fr 8 = .int .i64 (kids.length : Int) ∧ Fr.at fr 9 = .int .i64 (i : Int) ∧ i ≤ kids.length) 0 ?init ?JH ?step)
  case init => exact ⟨.refl st1, ⟨by simp, by simp, by simp⟩, by simp [Jc6], by simp, by simp, by simp, Nat.zero_le _⟩
  case JH => exact fun i fr st' h => h.2.2.2.2.2.2
  case step =>
   rintro i fr st' ⟨hk, ⟨hds, hg, h1⟩, h3, h7, h8, h9, hi⟩
   have elen : ∀ kk, Je Tryz.prog kk .lss 3 (.int .i64 (i : Int)) (.int .i64 (kids.length : Int)) = some (.bool (decide (i < kids.length))) := fun kk => QN rfl
   repeat refine Does.seq ?_
   refine Does.region ?_
   by_cases hlt : i < kids.length
   rotate_left
   ·rw [decide_eq_false hlt] at elen
    simp [h8, h9, elen]
    repeat refine Does.seq ?_
    refine Does.condF (by simp) ?_
    refine Does.exit ?_
    simp only [inBlock, if_true, andThen]
    exact ⟨rfl, hk, ⟨by simp [hds], by simp [hg], by simp [h1]⟩, by rw [← Jkr (i := i) (by omega)]; simp [h3]⟩
   ·rw [decide_eq_true hlt] at elen
    obtain ⟨r, g1⟩ := hkv.get (z := 5) (fun c _ => c.len5) Tryz.underlying23 z25 hlt
    have i1 := g1 .i64
    have hm := List.getElem_mem hlt
    have hld := JdE kids[i] r st'
    have hpk := Jc5 st' kids[i]
    have hpb := JdK st' kids[i]
    have hps := JcD st' (hks _ hm)
    have hl2 := JbG hpb
    obtain ⟨v, st2, hc, rfl, hk2⟩ := ih _ hm (hks' _ hm) (Jcd st' kids[i])
    have hc := Jh hc
    have hstep := Jiz hlt
    generalize Jcd st' kids[i] = st3 at hpk hps hl2 hc hk2
    clear hpb
    generalize Jce kids[i] = dc at hc hstep
    have hmx := Jpr (Jc6 kids i) dc
    generalize kids[i].cells = cs at hld hc i1 hps hl2
    have w1 : IntKind.i64.wrap ((i : Int) + 1) = (i : Int) + 1 := Jp (by omega) (by omega)
    simp [h8, h9, elen]
    repeat refine Does.seq ?_
    refine Does.condT (by simp) ?_
    refine Does.skip ?_
    simp
    repeat refine Does.seq ?_
    refine Does.block ?_
    repeat refine Does.seq ?_
    refine Does.region ?_
    simp [h7, h9, i1, hld, Jv, Jeu, V.cells, Ju, JM, Qe, hps]
    repeat refine Does.seq ?_
    refine Does.region ?_
    simp [h3, hl2, hg, Ja hk11, hc, hmx]
    repeat refine Does.seq ?_
    refine Does.region ?_
    simp [h9, Jq, w1]
    exact ⟨i + 1, by omega, (hk.trans hpk).trans hk2, ⟨by simp [hds], by simp [hg], by simp [h1]⟩, by simp [hstep], by simp [h7], by simp [h8], by simp, by omega⟩
 case tail => as_aux_lemma =>
  rintro e fr st2 ⟨rfl, hk, ⟨hds, hg, h1⟩, h3⟩
  simp only [andThen]
  repeat refine Does.seq ?_
  refine Does.region ?_
  simp [h3, Jq]
  refine Does.ret ?_
  simp [hds]
  exact hk1.trans hk
set_option maxHeartbeats 1000000 in
theorem JnQ (gl : Gl) (c : Cw) (hok : c.ok) : c.small → ∀ st : St,
  ∃ v st', W Tryz.prog (.call gl 37 [.agg c.cells]) st = .call (.val v st') ∧ v = .int .i64 (Jce c) ∧ Keep st st' := by
 induction hok with
 | mk k a nm wv ws kv kids hk hw hws hkv hks ih =>
 intro hsm st
 cases hsm with
 | mk _ _ _ _ _ _ _ hn hwl hkl hwz hkz hws' hks' =>
 have hk11 : Jg Tryz.prog 37 = true := by kernel_rfl
 have ow := hw.one
 have okv := hkv.one
 have oi : ∀ k n, Ju (.int k n) = true := fun _ _ => rfl
 have os : ∀ s, Ju (.str s) = true := fun _ => rfl
 have lx := hw.len Tryz.underlying22
 have lk := hkv.len Tryz.underlying23
 refine J3 (NY.no _ rfl rfl rfl _ _) Tryz.func37 rfl (by kernel_rfl) ?_
 repeat refine Does.seq ?_
 refine Does.region ?_
 simp [Jv, V.cells, Cw.cells, ow, oi, os, okv, JM]
 have hk1 := Jas st k a nm wv kv
 have b1 := JaB st k a nm wv kv
 have hct := JaC st k a nm wv kv
 rw [show ({ ctr := st.ctr + 1, box := st.box.put st.ctr (.cells [.int .u8 (k : Int), .int .i64 a, .str nm, wv, kv] 25 true (some 0)) } : St) = Jap st k a nm wv kv from rfl]
 revert hk1 b1 hct
 generalize Jap st k a nm wv kv = st1
 generalize hid1 : st.ctr = id1
 intro hk1 b1 hct
 have l4 := Jf (P := Tryz.prog) (off := 4) JfK JfJ b1 rfl
 have f0 := cg0 id1
 have f2 := cg2 id1
 have f3 := cg3 id1
 have f4 := cg4 id1
 rw [show Jce (.mk k a nm wv ws kv kids) = IntKind.i64.wrap (Jdu kids 0 + 1) from rfl]
 repeat refine Does.seq ?_
 refine Does.region ?_
 simp
 repeat refine Does.seq ?_
 refine Does.region ?_
 simp
 refine Does.mono (Q := Jps gl id1 st1 (Jdu kids 0)) ?loop ?tail
 case loop => as_aux_lemma =>
  refine Does.block (Does.up kids.length (fun i fr st' => Keep st1 st' ∧ Jf3 gl id1 fr ∧ Fr.at fr 3 = .int .i64 (Jc6 kids i) ∧ Fr.at fr 4 = .int .i64 (i : Int) ∧ i ≤ kids.length) 0 ?init ?JH ?step)
  case init => exact ⟨.refl st1, ⟨by simp, by simp, by simp⟩, by simp [Jc6], by simp, Nat.zero_le _⟩
  case JH => exact fun i fr st' h => h.2.2.2.2
  case step =>
   rintro i fr st' ⟨hk, ⟨hds, hg, h1⟩, h3, h4, hi⟩
   have elen : ∀ kk, Je Tryz.prog kk .lss 3 (.int .i64 (i : Int)) (.int .i64 (kids.length : Int)) = some (.bool (decide (i < kids.length))) := fun kk => QN rfl
   have b2 : st'.box.get id1 = some (.cells [.int .u8 (k : Int), .int .i64 a, .str nm, wv, kv] 25 true (some 0)) := by rw [hk.box _ hct]; exact b1
   have m4 := Jf (P := Tryz.prog) (off := 4) JfK JfJ b2 rfl
   repeat refine Does.seq ?_
   refine Does.region ?_
   by_cases hlt : i < kids.length
   rotate_left
   ·rw [decide_eq_false hlt] at elen
    simp [h1, h4, f4, m4, lk, elen]
    repeat refine Does.seq ?_
    refine Does.condF (by simp) ?_
    refine Does.exit ?_
    simp only [inBlock, if_true, andThen]
    exact ⟨rfl, hk, ⟨by simp [hds], by simp [hg], by simp [h1]⟩, by rw [← Jkr (i := i) (by omega)]; simp [h3]⟩
   ·rw [decide_eq_true hlt] at elen
    obtain ⟨r, g1⟩ := hkv.get (z := 5) (fun c _ => c.len5) Tryz.underlying23 z25 hlt
    have i1 := g1 .i64
    have hm := List.getElem_mem hlt
    have hld := JdE kids[i] r st'
    obtain ⟨v, st2, hc, rfl, hk2⟩ := ih _ hm (hks' _ hm) st'
    have hc := Jh hc
    have hstep := Jiz hlt
    generalize Jce kids[i] = dc at hc hstep
    have hmx := Jpr (Jc6 kids i) dc
    generalize kids[i].cells = cs at hld hc i1
    have w1 : IntKind.i64.wrap ((i : Int) + 1) = (i : Int) + 1 := Jp (by omega) (by omega)
    simp [h1, h4, f4, m4, lk, elen]
    repeat refine Does.seq ?_
    refine Does.condT (by simp) ?_
    refine Does.skip ?_
    simp
    repeat refine Does.seq ?_
    refine Does.block ?_
    repeat refine Does.seq ?_
    refine Does.region ?_
    simp [h1, h3, h4, f4, m4, i1, hld, hg, Ja hk11, hc, hmx]
    repeat refine Does.seq ?_
    refine Does.region ?_
    simp [h4, Jq, w1]
    exact ⟨i + 1, by omega, hk.trans hk2, ⟨by simp [hds], by simp [hg], by simp [h1]⟩, by simp [hstep], by simp, by omega⟩
 case tail => as_aux_lemma =>
  rintro e fr st2 ⟨rfl, hk, ⟨hds, hg, h1⟩, h3⟩
  simp only [andThen]
  repeat refine Does.seq ?_
  refine Does.region ?_
  simp [h3, Jq]
  refine Does.ret ?_
  simp [hds]
  exact hk1.trans hk
end Go.Vm
namespace Go.Vm
open Go Go.Proofs Go.Sy
set_option maxRecDepth 100000
attribute [local simp] Oks J8 Jj Jo vop Js Jy ev evs toV andThen inBlock Jn Fr.dsTo Fr.glTo Fr.toNone Jk Jl Jm J6 Jc Jz Jw V.undef JU J9 Qk
def Jhs : Cw → Bool
 | .mk k a nm wv ws kv kids => cond (decide (k = 0)) (decide (nm.n = 0) && (decide (ws.length = 0) && decide (kids.length = 0))) (decide (Jce (.mk k a nm wv ws kv kids) ≤ 24) && JbU (.mk k a nm wv ws kv kids))
variable [Memo] [NY]
set_option maxHeartbeats 1000000 in
theorem JmV (gl : Gl) {aL : List V} (hh : Hits gl aL) (c : Cw) (hok : c.ok) (hsm : c.small) (st : St) :
  ∃ v st', W Tryz.prog (.call gl 15 [.agg c.cells]) st = .call (.val v st') ∧ v = .bool (Jhs c) ∧ Keep st st' := by
 have hdep := fun st => JnP gl c hok hsm st
 have hmay := fun st => JnN gl hh c hok hsm st
 cases hok with
 | mk k a nm wv ws kv kids hk hw hws hkv hks =>
 cases hsm with
 | mk _ _ _ _ _ _ _ hn hwl hkl hwz hkz hws' hks' =>
 have hkd : Jg Tryz.prog 27 = true := by kernel_rfl
 have hkm : Jg Tryz.prog 34 = true := by kernel_rfl
 have ow := hw.one
 have okv := hkv.one
 have oi : ∀ k n, Ju (.int k n) = true := fun _ _ => rfl
 have os : ∀ s, Ju (.str s) = true := fun _ => rfl
 have lx := hw.len Tryz.underlying22
 have lk := hkv.len Tryz.underlying23
 refine J3 (NY.no _ rfl rfl rfl _ _) Tryz.func15 rfl (by kernel_rfl) ?_
 repeat refine Does.seq ?_
 refine Does.region ?_
 simp [Jv, V.cells, Cw.cells, ow, oi, os, okv, JM]
 have hk1 := Jas st k a nm wv kv
 have b1 := JaB st k a nm wv kv
 have hct := JaC st k a nm wv kv
 rw [show ({ ctr := st.ctr + 1, box := st.box.put st.ctr (.cells [.int .u8 (k : Int), .int .i64 a, .str nm, wv, kv] 25 true (some 0)) } : St) = Jap st k a nm wv kv from rfl]
 revert hk1 b1 hct
 generalize Jap st k a nm wv kv = st1
 generalize hid1 : st.ctr = id1
 intro hk1 b1 hct
 have l0 := Jf (P := Tryz.prog) (off := 0) sa5 sz5 b1 rfl
 have l2 := Jf (P := Tryz.prog) (off := 2) sa9 sz9 b1 rfl
 have l3 := Jf (P := Tryz.prog) (off := 3) Je2 Je1 b1 rfl
 have l4 := Jf (P := Tryz.prog) (off := 4) JfK JfJ b1 rfl
 have l25 : JB Tryz.prog st1 25 (.ptr id1 0) = some (.agg [.int .u8 (k : Int), .int .i64 a, .str nm, wv, kv]) := JbG (c := .mk k a nm wv ws kv kids) b1
 have f0 := cg0 id1
 have f2 := cg2 id1
 have f3 := cg3 id1
 have f4 := cg4 id1
 have hemp := QH nm
 have e0 : ∀ kk, Je Tryz.prog kk .eql 5 (.int .u8 (k : Int)) (.int .u8 0) = some (.bool (decide (k = 0))) := fun kk => JE rfl
 obtain ⟨v, st2, hc1, rfl, hk2⟩ := hdep st1
 have hc1 := Jh hc1
 have b2 : st2.box.get id1 = some (.cells [.int .u8 (k : Int), .int .i64 a, .str nm, wv, kv] 25 true (some 0)) := by rw [hk2.box _ hct]; exact b1
 have m25 : JB Tryz.prog st2 25 (.ptr id1 0) = some (.agg [.int .u8 (k : Int), .int .i64 a, .str nm, wv, kv]) := JbG (c := .mk k a nm wv ws kv kids) b2
 obtain ⟨v, st3, hc2, rfl, hk3⟩ := hmay st2
 have hc2 := Jh hc2
 simp only [Cw.cells] at hc1 hc2
 rw [show Jhs (.mk k a nm wv ws kv kids) = (cond (decide (k = 0)) (decide (nm.n = 0) && (decide (ws.length = 0) && decide (kids.length = 0))) (decide (Jce (.mk k a nm wv ws kv kids) ≤ 24) && JbU (.mk k a nm wv ws kv kids))) from rfl]
 have e24 : ∀ kk, Je Tryz.prog kk .leq 3 (.int .i64 (Jce (.mk k a nm wv ws kv kids))) (.int .i64 24) = some (.bool (decide (Jce (.mk k a nm wv ws kv kids) ≤ 24))) := fun kk => JbT
 generalize decide (Jce (.mk k a nm wv ws kv kids) ≤ 24) = dd at e24 ⊢
 generalize Jce (.mk k a nm wv ws kv kids) = dn at hc1 e24 ⊢
 generalize JbU (.mk k a nm wv ws kv kids) = mc at hc2 ⊢
 have ea : ∀ kk, Je Tryz.prog kk .add 3 (.int .i64 (ws.length : Int)) (.int .i64 (kids.length : Int)) = some (.int .i64 ((ws.length + kids.length : Nat) : Int)) := fun kk => by
  rw [Jq, Jp (by omega) (by omega)]; rfl
 have es : ∀ kk, Je Tryz.prog kk .eql 3 (.int .i64 ((ws.length + kids.length : Nat) : Int)) (.int .i64 0) = some (.bool (decide (ws.length = 0) && decide (kids.length = 0))) := fun kk => by
  have := JE (P := Tryz.prog) (kk := kk) (T := 3) (q := .i64) (c := ws.length + kids.length) (m := 0) (k := 0) rfl
  rw [this]
  congr 2
  rw [Bool.eq_iff_iff]
  simp
 generalize (decide (ws.length = 0) && decide (kids.length = 0)) = EK at es ⊢
 generalize ((ws.length + kids.length : Nat) : Int) = wk at ea es ⊢
 generalize decide (nm.n = 0) = D at hemp ⊢
 generalize decide (k = 0) = K at e0 ⊢
 generalize (ws.length : Int) = wl at lx ea ⊢
 generalize (kids.length : Int) = kl at lk ea ⊢
 generalize (k : Int) = ki at l0 l25 e0 hc1 m25 hc2 b1 b2 ⊢
 clear hdep hmay
 repeat refine Does.seq ?_
 refine Does.region ?_
 cases K with
 | true =>
  simp [f0, l0, e0]
  repeat refine Does.seq ?_
  refine Does.condT (by simp) ?_
  repeat refine Does.seq ?_
  refine Does.region ?_
  cases D with
  | false =>
   simp [f2, l2, Ji, hemp]
   refine Does.ret ?_
   simp
   exact hk1
  | true =>
   simp [f2, l2, Ji, hemp, f3, l3, lx, f4, l4, lk, ea, es]
   refine Does.ret ?_
   simp
   exact hk1
 | false =>
  simp [f0, l0, e0]
  repeat refine Does.seq ?_
  refine Does.condF (by simp) ?_
  refine Does.skip ?_
  simp
  repeat refine Does.seq ?_
  refine Does.region ?_
  generalize V.agg [.int .u8 ki, .int .i64 a, .str nm, wv, kv] = cv at l25 m25 hc1 hc2
  cases dd with
  | false =>
   simp [l25, Ja hkd, hc1, e24]
   refine Does.ret ?_
   simp
   exact hk1.trans hk2
  | true =>
   simp [l25, Ja hkd, hc1, e24, m25, Ja hkm, hc2]
   refine Does.ret ?_
   simp
   exact (hk1.trans hk2).trans hk3
set_option maxHeartbeats 1000000 in
theorem JmW (gl : Gl) (c : Cw) (hok : c.ok) (hsm : c.small) (st : St) :
  ∃ v st', W Tryz.prog (.call gl 18 [.agg c.cells]) st = .call (.val v st') ∧ v = .bool (Jhs c) ∧ Keep st st' := by
 have hdep := fun st => JnQ gl c hok hsm st
 have hmay := fun st => JnO gl c hok hsm st
 cases hok with
 | mk k a nm wv ws kv kids hk hw hws hkv hks =>
 cases hsm with
 | mk _ _ _ _ _ _ _ hn hwl hkl hwz hkz hws' hks' =>
 have hkd : Jg Tryz.prog 37 = true := by kernel_rfl
 have hkm : Jg Tryz.prog 38 = true := by kernel_rfl
 have ow := hw.one
 have okv := hkv.one
 have oi : ∀ k n, Ju (.int k n) = true := fun _ _ => rfl
 have os : ∀ s, Ju (.str s) = true := fun _ => rfl
 have lx := hw.len Tryz.underlying22
 have lk := hkv.len Tryz.underlying23
 refine J3 (NY.no _ rfl rfl rfl _ _) Tryz.func18 rfl (by kernel_rfl) ?_
 repeat refine Does.seq ?_
 refine Does.region ?_
 simp [Jv, V.cells, Cw.cells, ow, oi, os, okv, JM]
 have hk1 := Jas st k a nm wv kv
 have b1 := JaB st k a nm wv kv
 have hct := JaC st k a nm wv kv
 rw [show ({ ctr := st.ctr + 1, box := st.box.put st.ctr (.cells [.int .u8 (k : Int), .int .i64 a, .str nm, wv, kv] 25 true (some 0)) } : St) = Jap st k a nm wv kv from rfl]
 revert hk1 b1 hct
 generalize Jap st k a nm wv kv = st1
 generalize hid1 : st.ctr = id1
 intro hk1 b1 hct
 have l0 := Jf (P := Tryz.prog) (off := 0) sa5 sz5 b1 rfl
 have l2 := Jf (P := Tryz.prog) (off := 2) sa9 sz9 b1 rfl
 have l3 := Jf (P := Tryz.prog) (off := 3) Je2 Je1 b1 rfl
 have l4 := Jf (P := Tryz.prog) (off := 4) JfK JfJ b1 rfl
 have l25 : JB Tryz.prog st1 25 (.ptr id1 0) = some (.agg [.int .u8 (k : Int), .int .i64 a, .str nm, wv, kv]) := JbG (c := .mk k a nm wv ws kv kids) b1
 have f0 := cg0 id1
 have f2 := cg2 id1
 have f3 := cg3 id1
 have f4 := cg4 id1
 have hemp := QH nm
 have e0 : ∀ kk, Je Tryz.prog kk .eql 5 (.int .u8 (k : Int)) (.int .u8 0) = some (.bool (decide (k = 0))) := fun kk => JE rfl
 obtain ⟨v, st2, hc1, rfl, hk2⟩ := hdep st1
 have hc1 := Jh hc1
 have b2 : st2.box.get id1 = some (.cells [.int .u8 (k : Int), .int .i64 a, .str nm, wv, kv] 25 true (some 0)) := by rw [hk2.box _ hct]; exact b1
 have m25 : JB Tryz.prog st2 25 (.ptr id1 0) = some (.agg [.int .u8 (k : Int), .int .i64 a, .str nm, wv, kv]) := JbG (c := .mk k a nm wv ws kv kids) b2
 obtain ⟨v, st3, hc2, rfl, hk3⟩ := hmay st2
 have hc2 := Jh hc2
 simp only [Cw.cells] at hc1 hc2
 rw [show Jhs (.mk k a nm wv ws kv kids) = (cond (decide (k = 0)) (decide (nm.n = 0) && (decide (ws.length = 0) && decide (kids.length = 0))) (decide (Jce (.mk k a nm wv ws kv kids) ≤ 24) && JbU (.mk k a nm wv ws kv kids))) from rfl]
 have e24 : ∀ kk, Je Tryz.prog kk .leq 3 (.int .i64 (Jce (.mk k a nm wv ws kv kids))) (.int .i64 24) = some (.bool (decide (Jce (.mk k a nm wv ws kv kids) ≤ 24))) := fun kk => JbT
 generalize decide (Jce (.mk k a nm wv ws kv kids) ≤ 24) = dd at e24 ⊢
 generalize Jce (.mk k a nm wv ws kv kids) = dn at hc1 e24 ⊢
 generalize JbU (.mk k a nm wv ws kv kids) = mc at hc2 ⊢
 have ew : ∀ kk, Je Tryz.prog kk .eql 3 (.int .i64 (ws.length : Int)) (.int .i64 0) = some (.bool (decide (ws.length = 0))) := fun kk => JE rfl
 have ek : ∀ kk, Je Tryz.prog kk .eql 3 (.int .i64 (kids.length : Int)) (.int .i64 0) = some (.bool (decide (kids.length = 0))) := fun kk => JE rfl
 generalize decide (ws.length = 0) = E at ew ⊢
 generalize decide (kids.length = 0) = F at ek ⊢
 generalize decide (nm.n = 0) = D at hemp ⊢
 generalize decide (k = 0) = K at e0 ⊢
 generalize (ws.length : Int) = wl at lx ew ⊢
 generalize (kids.length : Int) = kl at lk ek ⊢
 generalize (k : Int) = ki at l0 l25 e0 hc1 m25 hc2 b1 b2 ⊢
 clear hdep hmay
 repeat refine Does.seq ?_
 refine Does.region ?_
 cases K with
 | true =>
  simp [f0, l0, e0]
  repeat refine Does.seq ?_
  refine Does.condT (by simp) ?_
  repeat refine Does.seq ?_
  refine Does.region ?_
  cases D with
  | false =>
   simp [f2, l2, Ji, hemp]
   refine Does.ret ?_
   simp
   exact hk1
  | true =>
   cases E with
   | false =>
    simp [f2, l2, Ji, hemp, f3, l3, lx, ew]
    refine Does.ret ?_
    simp
    exact hk1
   | true =>
    simp [f2, l2, Ji, hemp, f3, l3, lx, ew, f4, l4, lk, ek]
    refine Does.ret ?_
    simp
    exact hk1
 | false =>
  simp [f0, l0, e0]
  repeat refine Does.seq ?_
  refine Does.condF (by simp) ?_
  refine Does.skip ?_
  simp
  repeat refine Does.seq ?_
  refine Does.region ?_
  generalize V.agg [.int .u8 ki, .int .i64 a, .str nm, wv, kv] = cv at l25 m25 hc1 hc2
  cases dd with
  | false =>
   simp [l25, Ja hkd, hc1, e24]
   refine Does.ret ?_
   simp
   exact hk1.trans hk2
  | true =>
   simp [l25, Ja hkd, hc1, e24, m25, Ja hkm, hc2]
   refine Does.ret ?_
   simp
   exact (hk1.trans hk2).trans hk3
end Go.Vm
