/- Simple commands that may be, by the document. -/
import Derived.Test.YtebpfgkajjljjaaSy4
namespace Go.Vm
open Go Go.Proofs Go.Sy
attribute [local simp] Oks xOps vwanted isDefer vop kindOf vpure ev evs toV andThen inBlock atTo_some Fr.dsTo Fr.glTo Fr.toNone initFr_at initFr_ds initFr_gl veff traverse tupled vresult V.undef evOpt xDraw xStep

/-- not in that box -/
def Off (i : Nat) (s : V) : Prop := ∀ id n c, s = .ms id 0 n 3 c → id ≠ i
theorem OwnP.put' {b : Nat} {st : St} {s : V} {l : List Wp} (h : OwnP b st s l) {i : Nat} (hne : Off i s) (x : Bx) : OwnP b { st with box := st.box.put i x } s l := by
  rcases h.at' with h | ⟨id, cap, fl, rfl, hb, hbi, hi, hc⟩
  · exact ⟨.inl h⟩
  · have := hne id _ _ rfl
    exact ⟨.inr ⟨id, cap, fl, rfl, by rw [Tr.get_put, if_neg (by omega)]; exact hb, hbi, hi, hc⟩⟩
theorem OwnP.veq {b : Nat} {st : St} {s : V} {l : List Wp} (h : OwnP b st s l) : veq 1000000000 s s = true := by
  rcases h.at' with ⟨rfl, _⟩ | ⟨id, cap, fl, rfl, _⟩ <;> simp [Go.Vm.veq]
theorem OwnP.app2 {b : Nat} {st : St} {s x : V} {l m : List Wp} (h : OwnP b st s l) (hx : Vp st x m) (hn : l.length + m.length < 4000000) (hb0 : b ≤ st.ctr) :
    ∃ y st', vappend Try.prog st 29 s x = some (y, st') ∧ OwnP b st' y (l ++ m) ∧ LowP b st st' ∧ ∀ i, i < st.ctr → Off i s → Off i y ∧ st'.box.get i = st.box.get i := by
  obtain ⟨i, hi, hs, hby⟩ := i33
  have hsrc := hx.src
  have hzb : Nat.beq 3 0 = false := rfl
  have hzl : Nat.beq ([V.bool false, .str ⟨0, 0⟩, .bool false] : List V).length 3 = true := rfl
  have hone := ptsV_one m
  have hsl : sliceCells st 3 s = some (ptsV l, l.length) := by
    have := h.vp.src
    rcases h.at' with ⟨rfl, rfl⟩ | ⟨id, cap, fl, rfl, hb, _, hid, hc⟩ <;> exact this
  by_cases hm : m = []
  · subst hm
    refine ⟨s, st, ?_, by rw [List.append_nil]; exact h, .refl _ _, fun i _ ho => ⟨ho, rfl⟩⟩
    simp only [vappend, Try.underlying29, hi, hs, zs33, hzb, hsrc, hsl]
    rfl
  have hmb : Nat.beq m.length 0 = false := by
    cases m with
    | nil => exact absurd rfl hm
    | cons a b => rfl
  have hmp : 0 < m.length := by
    cases m with
    | nil => exact absurd rfl hm
    | cons a b => simp
  have h1 : Nat.ble ((l.length + m.length) * i.bytes) maxBytes = true := Nat.ble_eq_true_of_le (Nat.le_trans (Nat.mul_le_mul (Nat.le_of_lt hn) hby) (by decide))
  have h2 : Nat.ble (l.length + m.length) maxBytes = true := Nat.ble_eq_true_of_le (Nat.le_trans (Nat.le_of_lt hn) (by decide))
  have hnew : ∀ (bx : Tr Bx), OwnP b { ctr := st.ctr + 1, box := bx.put st.ctr (.cells (ptsV l ++ ptsV m) 33 false (some 0)) } (.ms st.ctr 0 (l.length + m.length) 3 none) (l ++ m) := fun bx =>
    ⟨.inr ⟨st.ctr, none, false, by rw [List.length_append], by rw [Tr.get_put, if_pos rfl, ptsV_app], hb0, Nat.lt_succ_self _, .inr rfl⟩⟩
  have hoff : ∀ i, i < st.ctr → Off i (.ms st.ctr 0 (l.length + m.length) 3 none) := fun i hi id n c he => by
    cases he; omega
  rcases h.at' with ⟨rfl, rfl⟩ | ⟨id, cap, fl, rfl, hb, hbid, hid, hc⟩
  · refine ⟨_, _, ?_, hnew st.box, ⟨Nat.le_succ _, fun j hj => by rw [Tr.get_put, if_neg (by omega)]⟩, fun i hi _ => ⟨hoff i hi, by rw [Tr.get_put, if_neg (by omega)]⟩⟩
    simp only [vappend, Try.underlying29, hi, hs, zs33, hzb, hsrc, hsl, hmb, h1, h2, hzl, hone]
    rfl
  · rcases hc with rfl | rfl
    · have h3 : Nat.ble (l.length + m.length) l.length = false := by
        rw [Bool.eq_false_iff]; intro h; have := Nat.le_of_ble_eq_true h; omega
      refine ⟨_, _, ?_, hnew st.box, ⟨Nat.le_succ _, fun j hj => by rw [Tr.get_put, if_neg (by omega)]⟩, fun i hi _ => ⟨hoff i hi, by rw [Tr.get_put, if_neg (by omega)]⟩⟩
      simp only [vappend, Try.underlying29, hi, hs, zs33, hzb, hsrc, hsl, hmb, h1, h2, hzl, hone, hb, roomOf, h3]
      rfl
    · have h3 : Nat.ble (0 + (l.length + m.length) * 3) (ptsV l).length = false := by
        rw [Bool.eq_false_iff, ptsV_len]; intro h; have := Nat.le_of_ble_eq_true h; omega
      refine ⟨_, _, ?_, hnew (st.box.del id), ⟨Nat.le_succ _, fun j hj => by rw [Tr.get_put, if_neg (by omega), Tr.get_del, if_neg (by omega)]⟩, fun i hi ho => ⟨hoff i hi, by have := ho id _ _ rfl; rw [Tr.get_put, if_neg (by omega), Tr.get_del, if_neg (by omega)]⟩⟩
      simp only [vappend, Try.underlying29, hi, hs, zs33, hzb, hsrc, hsl, hmb, h1, h2, hzl, hone, hb, roomOf, h3]
      rfl

theorem asg_step {nq : S} {l : List Wp} {i : Nat} (hi : i < l.length) (h : i = 0 → asgB l = false) : asgW' nq (l.take (i + 1)) = asgW' nq (l.take i) ++ [l[i]] := by
  cases l with
  | nil => simp at hi
  | cons p r =>
    cases i with
    | zero =>
      have := h rfl
      simp only [List.take_succ_cons, List.take_zero, List.getElem_cons_zero]
      rw [asg_no nq (l := [p]) this]
      rfl
    | succ i =>
      have hi' : i < r.length := by simpa using hi
      simp only [List.take_succ_cons, List.getElem_cons_succ, asgW']
      rw [List.take_add_one, List.getElem?_eq_getElem hi']
      split <;> simp

def SimQ2 (gl : Gl) (st1 : St) (id1 : Nat) (b : Bool) (e : AE) (fr : Fr) (st' : St) : Prop := e = AE.normal ∧ Keep st1 st' ∧ fr.ds = [] ∧ fr.gl = gl ∧ Fr.at fr 1 = .ptr id1 0 ∧ Fr.at fr 29 = .bool (!b)

/-- at the head of the walk over the parts -/
def Loop0 (gl : Gl) (nq : S) (x : V) (l : List Wp) (st1 : St) (id9 i : Nat) (fr : Fr) (st' : St) : Prop :=
  fr.ds = [] ∧ fr.gl = gl ∧ Fr.at fr 8 = x ∧ Fr.at fr 9 = .ptr id9 0 ∧ Keep st1 st' ∧ id9 < st'.ctr ∧
  ∃ z, st'.box.get id9 = some (.cells [z, .int .i64 0] 31 true (some 0)) ∧ OwnP st1.ctr st' z (asgW' nq (l.take i)) ∧ Off id9 z
def LoopI (gl : Gl) (nq : S) (x : V) (l : List Wp) (st1 : St) (id9 i : Nat) (fr : Fr) (st' : St) : Prop :=
  Loop0 gl nq x l st1 id9 i fr st' ∧ Fr.at fr 10 = .int .i64 (i : Int) ∧ i ≤ l.length

theorem asg_turn {nq : S} {l : List Wp} {i : Nat} {p : Wp} (hi : i < l.length) (hp : l[i] = p) {b : Bool} (hb : (decide (i = 0) && !p.v && !p.q && !p.t.toList.isEmpty) = b) :
    (b = true → i = 0 ∧ asgW' nq (l.take (i + 1)) = [⟨false, nq.app p.t, false⟩]) ∧ (b = false → asgW' nq (l.take (i + 1)) = asgW' nq (l.take i) ++ [p]) := by
  subst hp hb
  constructor
  · intro h
    have h0 : i = 0 := by
      refine Classical.byContradiction fun hn => ?_
      rw [decide_eq_false hn] at h; simp at h
    subst h0
    refine ⟨rfl, ?_⟩
    cases l with
    | nil => simp at hi
    | cons p r =>
      have hh : asgB (p :: []) = true := by
        unfold asgB
        simpa using h
      simpa using asg_yes nq (p := p) (r := []) hh
  · intro h
    refine asg_step hi fun h0 => ?_
    subst h0
    cases l with
    | nil => rfl
    | cons p r =>
      unfold asgB
      simpa using h
/-- the frame in a turn -/
def TurnF (gl : Gl) (x : V) (id9 i : Nat) (fr : Fr) : Prop := fr.ds = [] ∧ fr.gl = gl ∧ Fr.at fr 8 = x ∧ Fr.at fr 9 = .ptr id9 0 ∧ Fr.at fr 10 = .int .i64 (i : Int)
def TurnQ (gl : Gl) (x : V) (id9 i : Nat) (st : St) (b : Bool) (e : AE) (fr : Fr) (st' : St) : Prop := e = AE.normal ∧ AtSt st st' ∧ TurnF gl x id9 i fr ∧ Fr.at fr 109 = .bool b

variable [Memo] [NY]

set_option maxHeartbeats 1000000 in
theorem rSimple_ok (gl : Gl) (st : St) (k : Nat) (a : Int) (nm : S) (wv : V) (ws : List Ww) (kv : V) (hn : nm.n < 2000000) (hl : ws.length < 1000000) (hkv : oneC kv = true)
    (hw : Row Ww.cells wv ws) (hok : ∀ w ∈ ws, w.ok) (hs : ∀ w ∈ ws, w.small) :
    ∃ v st', W Try.prog (.call gl 20 [.agg [.int .u8 (k : Int), .int .i64 a, .str nm, wv, kv]]) st = .call (.val v st') ∧ v = .bool (simpleB nm ws) ∧ Keep st st' := by
  have hk21 : callable Try.prog 21 = true := by kernel_rfl
  have hk22 : callable Try.prog 22 = true := by kernel_rfl
  have hk32 : callable Try.prog 32 = true := by kernel_rfl
  have hk33 : callable Try.prog 33 = true := by kernel_rfl
  have hk34 : callable Try.prog 34 = true := by kernel_rfl
  have hk35 : callable Try.prog 35 = true := by kernel_rfl
  have ow := hw.one
  have oi : ∀ k n, oneC (.int k n) = true := fun _ _ => rfl
  have os : ∀ s, oneC (.str s) = true := fun _ => rfl
  have lx := hw.len Try.underlying22
  refine call_ex (NY.no _ rfl rfl _ _) Try.func20 rfl (by kernel_rfl) ?_
  repeat refine Does.seq ?_
  refine Does.region ?_
  simp [valloc, V.cells, ow, oi, os, hkv, mkRef]
  have hk1 := newCmd_keep st k a nm wv kv
  have b1 := newCmd_box st k a nm wv kv
  have hct := newCmd_ctr st k a nm wv kv
  rw [show ({ ctr := st.ctr + 1, box := st.box.put st.ctr (.cells [.int .u8 (k : Int), .int .i64 a, .str nm, wv, kv] 25 true (some 0)) } : St) = newCmd st k a nm wv kv from rfl]
  revert hk1 b1 hct
  generalize newCmd st k a nm wv kv = st1
  generalize hid1 : st.ctr = id1
  intro hk1 b1 hct
  have l2 := vload_of (P := Try.prog) (off := 2) sa9 sz9 b1 rfl
  have l3 := vload_of (P := Try.prog) (off := 3) sa22 sz22 b1 rfl
  have f2 := cg2 id1
  have f3 := cg3 id1
  have hemp := same_empty nm
  unfold simpleB
  repeat refine Does.seq ?_
  refine Does.region ?_
  by_cases hz : nm.n = 0
  · rw [if_pos hz]
    have hd64 : decide (ws.length ≤ 64) = !decide (64 < ws.length) := by
      by_cases h : ws.length ≤ 64
      · have : ¬ 64 < ws.length := by omega
        simp [h, this]
      · have : 64 < ws.length := by omega
        simp [h, this]
    rw [hd64]
    generalize hcA : (!decide (ws.length = 0) && !decide (64 < ws.length) && ws.all Ww.may) = cA
    generalize hPR : plainRes (headW ws) = PR
    generalize hAO : asgOk (headW ws) = AO
    rw [decide_eq_true hz] at hemp
    simp [f2, l2, vbin_seql, hemp]
    repeat refine Does.seq ?_
    refine Does.condT (by simp) ?_
    repeat refine Does.seq ?_
    have e0 : ∀ kk, vbin Try.prog kk .lss 3 (.int .i64 (ws.length : Int)) (.int .i64 1) = some (.bool (decide (ws.length = 0))) := fun kk => by
      have := vI_lss (P := Try.prog) (kk := kk) (T := 3) (q := .i64) (c := ws.length) (m := 1) (k := 1) rfl
      rw [this]
      congr 2
      rw [Bool.eq_iff_iff, decide_eq_true_iff, decide_eq_true_iff]; omega
    have e64 : ∀ kk, vbin Try.prog kk .gtr 3 (.int .i64 (ws.length : Int)) (.int .i64 64) = some (.bool (decide (64 < ws.length))) := fun kk => vI_gtr rfl
    obtain ⟨v2, st2, hc2, hv2, hk2⟩ := rWords_ok gl st1 wv ws hw hok hs hl
    have hc2 := ihCall_W hc2
    subst hv2
    refine Does.mono (Q := SimQ2 gl st1 id1 cA) ?r3 ?t3
    case r3 => as_aux_lemma =>
      refine Does.region ?_
      refine Oks.cont (Q := fun fr st' => SimQ2 gl st1 id1 cA AE.normal fr st') ?_ (fun fr st' h => h)
      rw [← hcA]
      generalize decide (ws.length = 0) = D0 at e0
      generalize decide (64 < ws.length) = D1 at e64
      generalize ws.all Ww.may = A at hc2
      cases D0 with
      | true =>
        simp [f3, l3, lx, e0]
        exact ⟨rfl, .refl _, by simp, by simp, by simp, by simp⟩
      | false =>
        cases D1 with
        | true =>
          simp [f3, l3, lx, e0, e64]
          exact ⟨rfl, .refl _, by simp, by simp, by simp, by simp⟩
        | false =>
          simp [f3, l3, lx, e0, e64, vcall_callable hk22, hc2]
          exact ⟨rfl, hk2, by simp, by simp, by simp, by simp⟩
    case t3 => as_aux_lemma =>
    clear hk2
    rintro e fr st2 ⟨rfl, hk2, hds, hg, h1, h45⟩
    simp only [andThen]
    repeat refine Does.seq ?_
    cases cA with
    | false =>
      refine Does.condT (by simp [h45]) ?_
      repeat refine Does.seq ?_
      refine Does.region ?_
      simp
      refine Does.ret ?_
      simp [hds]
      exact hk1.trans hk2
    | true =>
    refine Does.condF (by simp [h45]) ?_
    refine Does.skip ?_
    simp only [andThen, Bool.true_and]
    cases ws with
    | nil => simp at hcA
    | cons w r =>
    clear e0 e64 hd64 hcA
    subst hPR hAO
    rw [show headW (w :: r) = w.l from rfl]
    have hwo := hok w (by simp)
    have hws := hs w (by simp)
    have hpts := Ww.small_part hws
    have hk12 := hk1.trans hk2
    have b2 : st2.box.get id1 = some (.cells [.int .u8 (k : Int), .int .i64 a, .str nm, wv, kv] 25 true (some 0)) := by rw [hk2.box _ hct]; exact b1
    have l32 := vload_of (P := Try.prog) (off := 3) sa22 sz22 b2 rfl
    obtain ⟨rr, g1⟩ := hw.get (z := 2) (fun _ _ => rfl) Try.underlying22 z31 (show 0 < (w :: r).length by simp)
    have i1 : vindexAddr Try.prog 22 wv (.int .i64 0) = some (.cp (w.cells ++ rr)) := g1 .i64
    have hld := load31 w rr st2
    obtain ⟨v3, st3, hc3, ⟨s, rfl, hstx⟩, hk3⟩ := rPlain_ok gl st2 (.agg w.cells) w.l (Ww.wv hwo _) (by have := hws.1; omega) (by have := hws.2.1; omega)
    have hc3 := ihCall_W hc3
    repeat refine Does.seq ?_
    refine Does.region ?_
    refine Oks.cont (Q := fun fr st' => AtSt st3 st' ∧ fr.ds = [] ∧ fr.gl = gl ∧ Fr.at fr 1 = .ptr id1 0 ∧ Fr.at fr 3 = .str s ∧ Fr.at fr 4 = .bool (okP w.l && !decide (w.l.length = 0))) ?r5 ?t5
    case r5 => as_aux_lemma =>
      generalize w.cells = wc at hld hc3 i1
      generalize (okP w.l && !decide (w.l.length = 0)) = pl at hc3
      simp [h1, f3, l32, i1, hld, hg, hds, vcall_callable hk32, hc3]
      exact rfl
    case t5 => as_aux_lemma =>
    clear hds hg h1 h45 hc3
    rintro fr st' ⟨hst', hds, hg, h1, h3, h4⟩
    rw [show st' = st3 from hst']
    clear hst'
    simp only [andThen]
    have hk13 := hk12.trans hk3
    have hct2 : id1 < st2.ctr := Nat.lt_of_lt_of_le hct hk2.ctr
    have b3 : st3.box.get id1 = some (.cells [.int .u8 (k : Int), .int .i64 a, .str nm, wv, kv] 25 true (some 0)) := by rw [hk3.box _ hct2]; exact b2
    have l33 := vload_of (P := Try.prog) (off := 3) sa22 sz22 b3 rfl
    have hld3 := load31 w rr st3
    obtain ⟨v4, st4, hc4, ⟨s4, y4, a4, rfl, oy4⟩, hk4⟩ := rAssign_ok gl st3 (.agg w.cells) w.l (Ww.wv hwo _) (by have := hws.1; omega) (fun p hp => by have := hpts p hp; omega)
    have hc4 := ihCall_W hc4
    repeat refine Does.seq ?_
    refine Does.region ?_
    refine Oks.cont (Q := fun fr st' => Keep st4 st' ∧ fr.ds = [] ∧ fr.gl = gl ∧ Fr.at fr 3 = .str s ∧ Fr.at fr 4 = .bool (okP w.l && !decide (w.l.length = 0)) ∧ Fr.at fr 7 = .bool (asgOk w.l)) ?r6 ?t6
    case r6 => as_aux_lemma =>
      generalize w.cells = wc at hld3 hc4 i1
      generalize (okP w.l && !decide (w.l.length = 0)) = pl at h4
      generalize asgOk w.l = ao at hc4
      have hnk := newWord_keep st4 .nils 0
      have hnb := newWord_box st4 .nils 0
      have hs4 := store_all (P := Try.prog) (st := newWord st4 .nils 0) (l := [y4, .int .i64 a4]) z31 hnb rfl rfl (by simp [oy4, oi])
      have on : oneC .nils = true := rfl
      have hkk : Keep st4 { newWord st4 .nils 0 with box := (newWord st4 .nils 0).box.put st4.ctr (.cells [y4, .int .i64 a4] 31 true (some 0)) } := Keep.put hnk (Nat.le_refl _) _
      have hs4' : vstore Try.prog { ctr := st4.ctr + 1, box := st4.box.put st4.ctr (.cells [.nils, .int .i64 0] 31 true (some 0)) } 31 (.ptr st4.ctr 0) (.agg [y4, .int .i64 a4]) = some { newWord st4 .nils 0 with box := (newWord st4 .nils 0).box.put st4.ctr (.cells [y4, .int .i64 a4] 31 true (some 0)) } := hs4
      revert hkk hs4'
      generalize ({ newWord st4 .nils 0 with box := (newWord st4 .nils 0).box.put st4.ctr (.cells [y4, .int .i64 a4] 31 true (some 0)) } : St) = st5
      intro hkk hs4'
      simp [h1, h3, h4, f3, l33, i1, hld3, hg, hds, vcall_callable hk33, hc4, valloc, zs31, V.cells, on, oi, mkRef, vact, hs4']
      exact hkk
    case t6 => as_aux_lemma =>
    clear hds hg h1 h3 h4 hc4
    rintro fr st5 ⟨hk5, hds, hg, h3, h4, h7⟩
    simp only [andThen]
    have hk15 := (hk13.trans hk4).trans hk5
    obtain ⟨v6, st6, hc6, rfl, hk6⟩ := rReserved gl st5 s
    have hc6 := ihCall_W hc6
    repeat refine Does.seq ?_
    refine Does.region ?_
    rw [show plainRes w.l = (okP w.l && !decide (w.l.length = 0) && decide (textP w.l ∈ resL)) from rfl]
    generalize asgOk w.l = ao at h7
    generalize decide (w.l.length = 0) = lz at h4
    cases hop : okP w.l with
    | false =>
      rw [hop] at h4
      cases ao <;> simp [h3, h4, h7, hg] <;> refine Does.ret ?_ <;> simp [hds] <;> exact hk15
    | true =>
      rw [hstx hop] at hc6
      rw [hop] at h4
      generalize decide (textP w.l ∈ resL) = rs at hc6
      cases lz with
      | true => cases ao <;> simp [h3, h4, h7, hg] <;> refine Does.ret ?_ <;> simp [hds] <;> exact hk15
      | false =>
        cases ao <;> simp [h3, h4, h7, hg, vcall_callable hk34, hc6] <;> refine Does.ret ?_ <;> simp [hds] <;> first | exact hk15 | exact hk15.trans hk6
  · rw [if_neg hz]
    rw [decide_eq_false hz] at hemp
    simp [f2, l2, vbin_seql, hemp]
    repeat refine Does.seq ?_
    refine Does.condF (by simp) ?_
    refine Does.skip ?_
    simp only [andThen]
    repeat refine Does.seq ?_
    have hc21 := ihCall_W (rName3 gl st1 nm (by omega))
    generalize nameL nm.toList = nl at hc21
    have e1 : ∀ kk, vbin Try.prog kk .neq 3 (.int .i64 (ws.length : Int)) (.int .i64 1) = some (.bool (!decide (ws.length = 1))) := fun kk => vI_neq rfl
    generalize hD : decide (ws.length = 1) = D at e1
    refine Does.region ?_
    cases nl with
    | false =>
      simp [f2, l2, vcall_callable hk21, hc21]
      repeat refine Does.seq ?_
      refine Does.condT (by simp) ?_
      repeat refine Does.seq ?_
      refine Does.region ?_
      simp
      refine Does.ret ?_
      simp
      exact hk1
    | true =>
      cases D with
      | false =>
        simp [f2, f3, l2, l3, vcall_callable hk21, hc21, lx, e1]
        repeat refine Does.seq ?_
        refine Does.condT (by simp) ?_
        repeat refine Does.seq ?_
        refine Does.region ?_
        simp
        refine Does.ret ?_
        simp
        exact hk1
      | true =>
        obtain ⟨w, rfl⟩ : ∃ w, ws = [w] := by
          match ws, hD with
          | [w], _ => exact ⟨w, rfl⟩
        have e1' : ∀ kk, vbin Try.prog kk .neq 3 (.int .i64 1) (.int .i64 1) = some (.bool false) := e1
        have lx' : vlen Try.prog 22 wv = some (.int .i64 1) := lx
        have hwo := hok w (by simp)
        have hws := hs w (by simp)
        obtain ⟨rr, g1⟩ := hw.get (z := 2) (fun _ _ => rfl) Try.underlying22 z31 (show 0 < [w].length by simp)
        have i1 : vindexAddr Try.prog 22 wv (.int .i64 0) = some (.cp (w.cells ++ rr)) := g1 .i64
        have hpts := Ww.small_part hws
        rw [show headW [w] = w.l from rfl]
        simp [f2, f3, l2, l3, vcall_callable hk21, hc21, lx', e1']
        repeat refine Does.seq ?_
        refine Does.condF (by simp) ?_
        refine Does.skip ?_
        simp only [andThen]
        repeat refine Does.seq ?_
        refine Does.region ?_
        have fx0 : vfieldAddr Try.prog 31 (.cp (w.cells ++ rr)) 0 = some (.cp (w.cells ++ rr)) := by kernel_rfl
        have lx0 : vload Try.prog st1 29 (.cp (w.cells ++ rr)) = some w.x := by
          simp only [vload, vpart, sa29, sz29, Ww.cells]; rfl
        have hxw := Ww.wv hwo st1
        have oxw : oneC w.x = true := Row.one hwo
        have hvx : Vp st1 w.x w.l := Row.vp hwo st1
        generalize w.cells ++ rr = wr at i1 fx0 lx0

        refine Oks.cont (Q := fun fr st' => AtSt st1 st' ∧ fr.ds = [] ∧ fr.gl = gl ∧ Fr.at fr 1 = .ptr id1 0 ∧ Fr.at fr 8 = w.x) ?r9 ?t9
        case r9 => as_aux_lemma =>
          simp [f3, l3, i1, fx0, lx0]
          exact rfl
        case t9 =>
        clear hk21 hc21 e1 hD hw hok hs l3 f3 lx lx' e1' g1 i1 fx0 lx0
        rintro fr st' ⟨hst', hds, hg, h1, h8⟩
        rw [show st' = st1 from hst']
        clear hst'
        simp only [andThen]
        have hnq : (nm.app (S.ofList [61])).n = nm.n + 1 := rfl
        have hadd := vbin_sadd (P := Try.prog) (kk := true) (T := 9) (x := nm) (y := S.ofList [61]) (by have h61 : (S.ofList [61]).n = 1 := rfl; omega)
        rw [show asgW nm w.l = asgW' (nm.app (S.ofList [61])) w.l from by cases w.l <;> rfl]
        generalize nm.app (S.ofList [61]) = nq at hadd hnq
        repeat refine Does.seq ?_
        refine Does.region ?_
        refine Oks.cont (Q := fun fr st' => Loop0 gl nq w.x w.l st1 (st1.ctr + 1) 0 fr st') ?r10 ?t10
        case r10 => as_aux_lemma =>
          have hb33 := bld33 nq
          have bs1 := bs33 nq
          have o3 : oneC (.bool false) = true := rfl
          have o4 : oneC (.str nq) = true := rfl
          have on : oneC .nils = true := rfl
          have hb31 : vbuild Try.prog 31 [(0, .ms st1.ctr 0 1 3 (some 1))] = some (.agg [.ms st1.ctr 0 1 3 (some 1), .int .i64 0]) := by kernel_rfl
          have hs4 := store_all (P := Try.prog) (st := { ctr := st1.ctr + 1 + 1, box := (st1.box.put st1.ctr (.cells [.bool false, .str nq, .bool false] 33 true (some 0))).put (st1.ctr + 1) (.cells [.nils, .int .i64 0] 31 true (some 0)) }) (id := st1.ctr + 1) (cs := [.nils, .int .i64 0]) (l := [.ms st1.ctr 0 1 3 (some 1), .int .i64 0]) (e := 31) (fl := true) z31 (by rw [Tr.get_put, if_pos rfl]) rfl rfl rfl
          simp [h1, f2, l2, isK, hadd, evParts, hb33, bs1, mkRef, valloc, o3, o4, on, zs31, V.cells, oi, hb31, vact, hs4]
          refine ⟨hds, hg, by simp [h8], by simp, Keep.put (((Keep.refl st1).new _).new _) (Nat.le_succ _) _, Nat.lt_succ_self _, .ms st1.ctr 0 1 3 (some 1), by rw [Tr.get_put, if_pos rfl], ⟨.inr ⟨st1.ctr, some 1, true, rfl, ?_, Nat.le_refl _, Nat.lt_succ_of_lt (Nat.lt_succ_self _), .inl rfl⟩⟩, ?_⟩
          · rw [Tr.get_put, if_neg (by omega), Tr.get_put, if_neg (by omega), Tr.get_put, if_pos rfl]; rfl
          · intro id n c he
            cases he; omega
        case t10 =>
        clear hds hg h1 h8 hadd
        rintro fr st' ⟨hds, hg, h8, h9, hk, hid9, z, hb9, hown, hoff⟩
        simp only [andThen]
        generalize hi9 : st1.ctr + 1 = id9 at h9 hid9 hb9 hoff
        repeat refine Does.seq ?_
        refine Does.region ?_
        simp
        repeat refine Does.seq ?_
        refine Does.mono (Q := fun e fr st' => e = AE.normal ∧ Loop0 gl nq w.x w.l st1 id9 w.l.length fr st') ?loop ?tail
        case tail => as_aux_lemma =>
          rintro e fr st' ⟨rfl, hds, hg, h8, h9, hk, hid9, z, hb9, hown, hoff⟩
          simp only [andThen]
          rw [List.take_length] at hown
          repeat refine Does.seq ?_
          refine Does.region ?_
          have hld := vload31 hb9
          have hlen : (asgW' nq w.l).length ≤ w.l.length + 1 := by
            cases w.l with
            | nil => exact Nat.le_refl _
            | cons p r => rw [asgW']; split <;> simp
          have htx : ∀ p ∈ asgW' nq w.l, p.t.n < 4000000000000000000 := by
            have hpts' := hpts
            revert hpts'
            cases w.l with
            | nil =>
              intro _ p hp
              simp only [asgW', List.mem_singleton] at hp
              subst hp
              show nq.n < _
              omega
            | cons q r =>
              intro hpts' p hp
              have hq := hpts' q (by simp)
              have e2 : (nq.app q.t).n = nq.n + q.t.n := rfl
              rw [asgW'] at hp
              split at hp
              · rcases List.mem_cons.1 hp with rfl | hp
                · show (nq.app q.t).n < _
                  omega
                · have := hpts' p (by simp [hp]); omega
              · rcases List.mem_cons.1 hp with rfl | hp
                · show nq.n < _
                  omega
                · have := hpts' p hp; omega
          have hk35 : callable Try.prog 35 = true := by kernel_rfl
          obtain ⟨v2, st2, hc2, hv2, hk2⟩ := rMay_ok gl st' (.agg [z, .int .i64 0]) (asgW' nq w.l) ⟨z, 0, rfl, hown.vp⟩ (by have := hws.1; omega) htx
          have hc2 := ihCall_W hc2
          subst hv2
          generalize mayW ((asgW' nq w.l).map Wp.key) = res at hc2
          simp [h9, hld, hg, vcall_callable hk35, hc2]
          refine Does.ret ?_
          simp [hds]
          exact (hk1.trans hk).trans hk2
        case loop =>
          refine Does.block (Does.up w.l.length (fun i fr st' => LoopI gl nq w.x w.l st1 id9 i fr st') 0 ?init ?bound ?step)
          case init => exact ⟨⟨by simp [hds], by simp [hg], by simp [h8], by simp [h9], hk, hid9, z, hb9, hown, hoff⟩, by simp, Nat.zero_le _⟩
          case bound => exact fun i fr st' h => h.2.2
          case step =>
            clear hds hg h8 h9 hk hid9 hb9 hown hoff
            rintro i fr st' ⟨⟨hds, hg, h8, h9, hk, hid9, z, hb9, hown, hoff⟩, h10, hi⟩
            have elen : ∀ kk, vbin Try.prog kk .lss 3 (.int .i64 (i : Int)) (.int .i64 (w.l.length : Int)) = some (.bool (decide (i < w.l.length))) := fun kk => vI_lss rfl
            have hxl := hvx.keep hk
            have lxl := hxl.len
            repeat refine Does.seq ?_
            refine Does.region ?_
            by_cases hlt : i < w.l.length
            rotate_left
            · rw [decide_eq_false hlt] at elen
              simp [h8, h10, lxl, elen]
              repeat refine Does.seq ?_
              refine Does.condF (by simp) ?_
              refine Does.exit ?_
              simp only [inBlock, if_true, andThen]
              have : i = w.l.length := by omega
              subst this
              exact ⟨trivial, by simp [hds], by simp [hg], by simp [h8], by simp [h9], hk, hid9, z, hb9, hown, hoff⟩
            · rw [decide_eq_true hlt] at elen
              simp [h8, h10, lxl, elen]
              repeat refine Does.seq ?_
              refine Does.condT (by simp) ?_
              refine Does.skip ?_
              simp
              repeat refine Does.seq ?_
              refine Does.block ?_
              obtain ⟨pa, g3, g4⟩ := hxl.get hlt
              have hgd : w.l.getD i default = w.l[i] := by rw [List.getD_eq_getElem?_getD, List.getElem?_eq_getElem hlt]; rfl
              rw [hgd] at g4
              have hpn := hpts _ (List.getElem_mem hlt)
              have hturn := fun b => asg_turn (nq := nq) hlt rfl (b := b)
              generalize w.l[i] = p at g4 hpn hturn hgd
              obtain ⟨p33, ⟨p0, m0, n0⟩, ⟨p1, m1, n1⟩, ⟨p2, m2, n2⟩⟩ := g4.loads
              have i3 := g3 .i64
              have ete := str_empty p.t
              have e0 : ∀ kk, vbin Try.prog kk .eql 3 (.int .i64 (i : Int)) (.int .i64 0) = some (.bool (decide (i = 0))) := fun kk => vI_eql rfl
              repeat refine Does.seq ?_
              refine Does.mono (Q := TurnQ gl w.x id9 i st' (decide (i = 0) && !p.v && !p.q && !p.t.toList.isEmpty)) ?r14 ?t14
              case r14 => as_aux_lemma =>
                refine Does.region ?_
                refine Oks.cont (Q := fun fr st'' => AtSt st' st'' ∧ TurnF gl w.x id9 i fr ∧ Fr.at fr 109 = .bool (decide (i = 0) && !p.v && !p.q && !p.t.toList.isEmpty)) ?_ (fun fr st' h => ⟨rfl, h.1, h.2⟩)
                generalize p.t.toList.isEmpty = te at ete
                generalize p.v = vv at n0
                generalize p.q = qq at n2
                generalize p.t = tt at n1 ete
                generalize decide (i = 0) = zi at e0
                clear hl hvx hxl g3 g4 hturn hpn hpts hws hwo hxw oxw
                refine Oks.cut 11 (fun fr st'' => AtSt st' st'' ∧ TurnF gl w.x id9 i fr ∧ Fr.at fr 94 = .bool (zi && !vv)) ?c1 ?c2
                case c1 => as_aux_lemma =>
                  simp only [List.take, List.take_succ_cons]
                  generalize hii : (i : Int) = ii at h10 e0 i3
                  cases zi with
                  | false =>
                    simp [h8, h9, h10, e0, hds, hg]
                    exact ⟨rfl, by simp [hds], by simp [hg], by simp [h8], by simp [h9], by simp [h10, hii]⟩
                  | true =>
                    simp [h8, h9, h10, e0, i3, m0, n0, hds, hg]
                    exact ⟨rfl, by simp [hds], by simp [hg], by simp [h8], by simp [h9], by simp [h10, hii]⟩
                case c2 => as_aux_lemma =>
                clear hds hg h8 h9 h10
                rintro fr st'' ⟨hst', ⟨hds, hg, h8, h9, h10⟩, h94⟩
                rw [show st'' = st' from hst']
                clear hst'
                simp only [List.drop, List.drop_succ_cons]
                generalize (zi && !vv) = y1 at h94
                refine Oks.cut 8 (fun fr st'' => AtSt st' st'' ∧ TurnF gl w.x id9 i fr ∧ Fr.at fr 102 = .bool (y1 && !qq)) ?c3 ?c4
                case c3 => as_aux_lemma =>
                  simp only [List.take, List.take_succ_cons]
                  generalize hii : (i : Int) = ii at h10 e0 i3
                  cases y1 with
                  | false =>
                    simp [h94, h8, h9, h10, hds, hg]
                    exact ⟨rfl, by simp [hds], by simp [hg], by simp [h8], by simp [h9], by simp [h10, hii]⟩
                  | true =>
                    simp [h94, h8, h9, h10, i3, m2, n2, hds, hg]
                    exact ⟨rfl, by simp [hds], by simp [hg], by simp [h8], by simp [h9], by simp [h10, hii]⟩
                case c4 => as_aux_lemma =>
                clear hds hg h8 h9 h10 h94
                rintro fr st'' ⟨hst', ⟨hds, hg, h8, h9, h10⟩, h102⟩
                rw [show st'' = st' from hst']
                clear hst'
                simp only [List.drop, List.drop_succ_cons]
                generalize (y1 && !qq) = y2 at h102
                generalize hii : (i : Int) = ii at h10 e0 i3
                cases y2 with
                | false =>
                  simp [h102, h8, h9, h10, hds, hg]
                  exact ⟨rfl, by simp [hds], by simp [hg], by simp [h8], by simp [h9], by simp [h10, hii]⟩
                | true =>
                  simp [h102, h8, h9, h10, i3, m1, n1, vbin_sneq, ete, hds, hg]
                  exact ⟨rfl, by simp [hds], by simp [hg], by simp [h8], by simp [h9], by simp [h10, hii]⟩
              case t14 => as_aux_lemma =>
                clear hds hg h8 h9 h10
                rintro e fr st'' ⟨rfl, hst', ⟨hds, hg, h8, h9, h10⟩, h109⟩
                rw [show st'' = st' from hst']
                clear hst'
                simp only [andThen]
                have hturn := hturn _ rfl
                generalize (decide (i = 0) && !p.v && !p.q && !p.t.toList.isEmpty) = b at h109 hturn
                repeat refine Does.seq ?_
                refine Does.mono (Q := fun e fr st'' => e = AE.normal ∧ Loop0 gl nq w.x w.l st1 id9 (i + 1) fr st'' ∧ Fr.at fr 10 = .int .i64 (i : Int)) ?body ?next
                case next => as_aux_lemma =>
                  clear hds hg h8 h9 h10
                  rintro e fr st'' ⟨rfl, ⟨hds, hg, h8, h9, hr⟩, h10⟩
                  simp only [andThen, inBlock]
                  have w1 : IntKind.i64.wrap ((i : Int) + 1) = (i : Int) + 1 := wrap_i64 (by omega) (by have := hws.1; omega)
                  refine Does.region ?_
                  simp [h10, vbin_add, w1]
                  exact ⟨i + 1, by omega, ⟨by simp [hds], by simp [hg], by simp [h8], by simp [h9], hr⟩, by simp, by omega⟩
                case body =>
                have b9t : ({ ctr := st'.ctr, box := st'.box } : St).box.get id9 = some (.cells [z, .int .i64 0] 31 true (some 0)) := hb9
                have fz9 := wf0 id9
                cases b with
                | true =>
                  obtain ⟨rfl, hnew⟩ := hturn.1 rfl
                  refine Does.condT (by simp [h109]) ?_
                  repeat refine Does.seq ?_
                  refine Does.draw (b := [0, 1, 0, 4, 12, 28, 60, 0, 0, 384, 896, 1920, 4092, 8191, 16383, 32767]) (l := [0, 1, 2, 3, 4, 5, 6, 7, 8, 9, 10, 11, 12, 13, 14, 15]) (by kernel_rfl) (by kernel_rfl) (by kernel_rfl) ?_
                  have l29 := vload_of (P := Try.prog) (st := { ctr := st'.ctr + 16, box := st'.box }) (off := 0) sa29 sz29 hb9 rfl
                  have hkt := (Keep.refl st').tick 16
                  obtain ⟨pa', g3', g4'⟩ := (hxl.keep hkt).get hlt
                  rw [hgd] at g4'
                  obtain ⟨_, _, ⟨p1', m1', n1'⟩, _⟩ := g4'.loads
                  have i3' : vindexAddr Try.prog 29 w.x (.int .i64 0) = some pa' := g3' .i64
                  have h10' : Fr.at fr 10 = .int .i64 0 := h10
                  rcases hown.at' with ⟨_, hnil⟩ | ⟨zid, cap, fl, rfl, hzb, hbz, hzid, hc⟩
                  · cases w.l <;> simp [asgW'] at hnil
                  have hzb' : st'.box.get zid = some (.cells [.bool false, .str nq, .bool false] 33 fl (some 0)) := hzb
                  have zi1 : vindexAddr Try.prog 29 (.ms zid 0 1 3 cap) (.int .i64 0) = some (.ptr zid 0) := by
                    simp only [vindexAddr, Try.underlying29, z33]; rfl
                  have t1 := pg1 zid 0
                  simp only [Nat.zero_add] at t1
                  have r1 := vload_of (P := Try.prog) (st := { ctr := st'.ctr + 16, box := st'.box }) (off := 1) sa9 sz9 hzb' rfl
                  have hadd := vbin_sadd (P := Try.prog) (kk := false) (T := 9) (x := nq) (y := p.t) (by omega)
                  have hst := vstore_one (P := Try.prog) (st := { ctr := st'.ctr + 16, box := st'.box }) (t := 9) (off := 1) (v := .str (nq.app p.t)) sz9 hzb' (by simp) rfl
                  simp only [List.set_cons_succ, List.set_cons_zero] at hst
                  have hzlen : (asgW' nq (List.take 0 w.l)).length = 1 := by rw [List.take_zero]; rfl
                  rw [hzlen] at l29
                  have vz : veq 1000000000 (.ms zid 0 1 3 cap) (.ms zid 0 1 3 cap) = true := by simp [Go.Vm.veq]
                  simp [sameIn, h8, h9, h10', fz9, l29, zi1, t1, r1, i3', m1', n1', isK, hadd, vact, hst, veq_str, vz]
                  have hzne := hoff zid _ _ rfl
                  refine ⟨by simp [hds], by simp [hg], by simp [h8], by simp [h9], Keep.put (hk.tick 16) (by omega) _, Nat.lt_of_lt_of_le hid9 (Nat.le_add_right _ _), .ms zid 0 1 3 cap, by rw [Tr.get_put, if_neg (by omega), hb9, hzlen], ?_, fun id n c he => by cases he; exact hzne⟩
                  rw [hnew]
                  exact ⟨.inr ⟨zid, cap, fl, rfl, by rw [Tr.get_put, if_pos rfl]; rfl, hbz, Nat.lt_of_lt_of_le hzid (Nat.le_add_right _ _), by rw [hzlen] at hc; exact hc⟩⟩
                | false =>
                  have hnew := hturn.2 rfl
                  refine Does.condF (by simp [h109]) ?_
                  repeat refine Does.seq ?_
                  refine Does.draw (b := [0, 1, 0, 0, 12, 28, 60, 127, 255, 511]) (l := [0, 1, 2, 3, 4, 5, 6, 7, 8, 9]) (by kernel_rfl) (by kernel_rfl) (by kernel_rfl) ?_
                  have l29 := vload_of (P := Try.prog) (st := { ctr := st'.ctr + 10, box := st'.box }) (off := 0) sa29 sz29 hb9 rfl
                  have hkt := (Keep.refl st').tick 10
                  obtain ⟨pa', g3', g4'⟩ := (hxl.keep hkt).get hlt
                  rw [hgd] at g4'
                  obtain ⟨p33', _⟩ := g4'.loads
                  have i3' := g3' .i64
                  have bs1 : vbuildSlice Try.prog 29 1 [(0, .agg p.cells)] = some (p.cells, 33, 3) := by kernel_rfl
                  have po : p.cells.all oneC = true := rfl
                  have pl : p.cells.length = 3 := rfl
                  have vp : veq 1000000000 (.agg p.cells) (.agg p.cells) = true := veq_self _ (by simp [Wp.cells, vsz, vszs])
                  have hvz := hown.veq
                  have hown1 : OwnP st1.ctr { ctr := st'.ctr + 10, box := st'.box.put (st'.ctr + 6) (.cells p.cells 33 true (some 0)) } z (asgW' nq (w.l.take i)) := by
                    rcases hown.at' with h | ⟨id, cap, fl, rfl, hb, hbi, hi, hc⟩
                    · exact ⟨.inl h⟩
                    · exact ⟨.inr ⟨id, cap, fl, rfl, by rw [Tr.get_put, if_neg (by omega)]; exact hb, hbi, by show id < st'.ctr + 10; omega, hc⟩⟩
                  have hx8 : Vp { ctr := st'.ctr + 10, box := st'.box.put (st'.ctr + 6) (.cells p.cells 33 true (some 0)) } (.ms (st'.ctr + 6) 0 1 3 (some 1)) [p] :=
                    .ms (st'.ctr + 6) 0 (some 1) p.cells [] 33 true (some 0) [p] (by rw [Tr.get_put, if_pos rfl]) (by show st'.ctr + 6 < st'.ctr + 10; omega) (by simp [ptsV]) (Nat.zero_le _) rfl
                  have hlen : (asgW' nq (w.l.take i)).length ≤ i + 1 := by
                    have : (w.l.take i).length ≤ i := by simp; omega
                    revert this
                    cases w.l.take i with
                    | nil => intro _; simp [asgW']
                    | cons p r => intro h; rw [asgW']; split <;> simp at h ⊢ <;> omega
                  have hk1c := hk.ctr
                  obtain ⟨y, st4, hap, hown4, hlow, hoff4⟩ := hown1.app2 hx8 (by have := hws.1; simp; omega) (by show st1.ctr ≤ st'.ctr + 10; omega)
                  have h4 := hoff4 id9 (by show id9 < st'.ctr + 10; omega) hoff
                  have hb9' : st4.box.get id9 = some (.cells [z, .int .i64 0] 31 true (some 0)) := by
                    rw [h4.2, Tr.get_put, if_neg (by omega)]; exact hb9
                  have oy : simV y = true := by
                    rcases hown4.at' with ⟨rfl, _⟩ | ⟨_, _, _, rfl, _⟩ <;> rfl
                  have hst := vstore_one (P := Try.prog) (st := st4) (t := 29) (off := 0) (v := y) sz29 hb9' (by simp) oy
                  simp only [List.set_cons_zero] at hst
                  generalize p.cells = pc at p33' bs1 po pl vp hap hlow
                  simp [sameIn, h8, h9, h10, fz9, l29, i3', p33', evParts, bs1, valloc, po, pl, mkRef, vp, hvz, vact, hap, hst]
                  have hk8 : Keep st1 { ctr := st'.ctr + 10, box := st'.box.put (st'.ctr + 6) (.cells pc 33 true (some 0)) } := Keep.put (id := st'.ctr + 6) (hk.tick 10) (by omega) _
                  have hk4 : Keep st1 st4 := hlow.keep hk8 (Nat.le_refl _)
                  have hc4 := hlow.ctr
                  refine ⟨by simp [hds], by simp [hg], by simp [h8], by simp [h9], Keep.put hk4 (by omega) _, by show id9 < st4.ctr; simp only at hc4; omega, y, by rw [Tr.get_put, if_pos rfl], ?_, h4.1⟩
                  rw [hnew]
                  exact hown4.put' h4.1 _
end Go.Vm
