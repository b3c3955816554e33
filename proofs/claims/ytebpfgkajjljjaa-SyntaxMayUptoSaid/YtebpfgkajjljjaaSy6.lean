/- Which commands may be: the program's may. Which commands may be: the document's one. How deep commands are. Which commands may be. -/
import Derived.Test.YtebpfgkajjljjaaSy5
namespace Go.Vm
open Go Go.Proofs Go.Sy
attribute [local simp] Oks xOps vwanted isDefer vop kindOf vpure ev evs toV andThen inBlock atTo_some Fr.dsTo Fr.glTo Fr.toNone initFr_at initFr_ds initFr_gl veff traverse tupled vresult V.undef evOpt xDraw xStep

def bareB (nm : S) (ws : List Ww) : Bool := decide (nm.n = 0) && decide (ws.length = 0)
def forB (nm : S) (ws : List Ww) : Bool := nameL nm.toList && decide (ws.length ≤ 64) && ws.all Ww.may
def kindP (d1 d2 d3 d4 d7 d8 d5 d6 d9 : Bool) (n : Nat) (bare sim fr : Bool) : Bool :=
  cond d1 (decide (n = 0) && sim) (cond d2 (bare && decide (n = 1)) (cond (cond d3 true (cond d4 true (cond d7 true d8))) (bare && decide (n = 2)) (cond d5 (bare && decide (2 ≤ n)) (cond d6 (bare && (decide (n = 2) || decide (n = 3))) (cond d9 (decide (n = 1) && fr) false)))))
/-- by its kind -/
def kindB (k n : Nat) (nm : S) (ws : List Ww) : Bool :=
  kindP (decide (k = 1)) (decide (k = 2)) (decide (k = 3)) (decide (k = 4)) (decide (k = 7)) (decide (k = 8)) (decide (k = 5)) (decide (k = 6)) (decide (k = 9)) n (bareB nm ws) (simpleB nm ws) (forB nm ws)
mutual
/-- may a command be that is one? -/
def mayC : Cw → Bool
  | .mk k _ nm _ ws _ kids => mayCs kids && kindB k kids.length nm ws
def mayCs : List Cw → Bool
  | [] => true
  | c :: r => mayC c && mayCs r
end
theorem mayCs_all : ∀ l : List Cw, mayCs l = l.all mayC
  | [] => by simp [mayCs]
  | c :: r => by simp [mayCs, mayCs_all r]

/-- the first so many may be -/
def KidsTo (ks : List Cw) (i : Nat) : Prop := (ks.take i).all mayC = true
theorem kids_zero (ks : List Cw) : KidsTo ks 0 := rfl
theorem kids_end {ks : List Cw} {i : Nat} (h : KidsTo ks i) (hi : ks.length ≤ i) : mayCs ks = true := by
  rw [mayCs_all]; unfold KidsTo at h; rwa [List.take_of_length_le hi] at h
theorem kids_step {ks : List Cw} {i : Nat} (h : KidsTo ks i) (hi : i < ks.length) (hb : mayC ks[i] = true) : KidsTo ks (i + 1) := by
  unfold KidsTo at h ⊢
  rw [List.take_add_one, List.getElem?_eq_getElem hi, List.all_append, h]
  simp [hb]
theorem kids_no {ks : List Cw} {i : Nat} (hi : i < ks.length) (hb : mayC ks[i] = false) : mayCs ks = false := by
  rw [mayCs_all, Bool.eq_false_iff]
  intro h
  rw [List.all_eq_true] at h
  have := h _ (List.getElem_mem hi)
  rw [hb] at this
  cases this

theorem zs25 : zeroT Try.prog 25 = some (.agg [.int .u8 0, .int .i64 0, .str (S.ofList []), .nils, .nils]) := by kernel_rfl
theorem Cw.ones {c : Cw} (h : c.ok) : c.cells.all oneC = true := by
  cases h with
  | mk k a nm wv ws kv kids hk hw hws hkv hks => 
    simp only [Cw.cells, List.all_cons, hw.one, hkv.one]
    rfl
theorem vload25 {st : St} {id : Nat} {c : Cw} {e : TypeId} {fl : Bool} {fz : Option Nat} (hb : st.box.get id = some (.cells c.cells e fl fz)) : vload Try.prog st 25 (.ptr id 0) = some (.agg c.cells) := by
  have hl := c.len5
  simp only [vload, hb, vpart, a25, z25]
  simp [sub, hl, List.take_of_length_le]

/-- a command is held -/
def putCmd (st : St) (c : Cw) : St := { ctr := st.ctr + 1, box := (st.box.put st.ctr (.cells [.int .u8 0, .int .i64 0, .str (S.ofList []), .nils, .nils] 25 true (some 0))).put st.ctr (.cells c.cells 25 true (some 0)) }
theorem putCmd_keep (st : St) (c : Cw) : Keep st (putCmd st c) := Keep.put ((Keep.refl st).new _) (Nat.le_refl _) _
theorem putCmd_box (st : St) (c : Cw) : (putCmd st c).box.get st.ctr = some (.cells c.cells 25 true (some 0)) := by unfold putCmd; rw [Tr.get_put, if_pos rfl]
theorem putCmd_store (st : St) {c : Cw} (h : c.ok) : vstore Try.prog { ctr := st.ctr + 1, box := st.box.put st.ctr (.cells [.int .u8 0, .int .i64 0, .str (S.ofList []), .nils, .nils] 25 true (some 0)) } 25 (.ptr st.ctr 0) (.agg c.cells) = some (putCmd st c) :=
  store_all z25 (by rw [Tr.get_put, if_pos rfl]) rfl c.len5 (Cw.ones h)

def CmdF (gl : Gl) (id1 : Nat) (fr : Fr) : Prop := fr.ds = [] ∧ fr.gl = gl ∧ Fr.at fr 1 = .ptr id1 0
def KidQ (gl : Gl) (id1 : Nat) (st : St) (A : Bool) (e : AE) (fr : Fr) (st' : St) : Prop :=
  (e = AE.ret ∧ Keep st st' ∧ fr.ds = [] ∧ Fr.at fr 2 = .bool false ∧ A = false) ∨ (e = AE.normal ∧ Keep st st' ∧ CmdF gl id1 fr ∧ A = true)
def KindQ (st : St) (b : Bool) (e : AE) (fr : Fr) (st' : St) : Prop :=
  (e = AE.ret ∧ Keep st st' ∧ fr.ds = [] ∧ Fr.at fr 2 = .bool b) ∨ (e = AE.normal ∧ Keep st st' ∧ fr.ds = [] ∧ b = false)
def KindF (gl : Gl) (id1 n : Nat) (bare : Bool) (fr : Fr) : Prop := CmdF gl id1 fr ∧ Fr.at fr 5 = .int .i64 (n : Int) ∧ Fr.at fr 6 = .bool bare

def ChainQ (gl : Gl) (id1 : Nat) (ki kl : Int) (bare : Bool) (st : St) (b : Bool) (e : AE) (fr : Fr) (st' : St) : Prop :=
  e = AE.normal ∧ AtSt st st' ∧ CmdF gl id1 fr ∧ Fr.at fr 5 = .int .i64 kl ∧ Fr.at fr 6 = .bool bare ∧ Fr.at fr 31 = .int .u8 ki ∧ Fr.at fr 47 = .bool b

variable [Memo] [NY]

set_option maxHeartbeats 1000000 in
theorem wmay_ok (gl : Gl) {aL : List V} (hh : Hits gl aL) (c : Cw) (hok : c.ok) : c.small → ∀ st : St,
    ∃ v st', W Try.prog (.call gl 11 [.agg c.cells]) st = .call (.val v st') ∧ v = .bool (mayC c) ∧ Keep st st' := by
  induction hok with
  | mk k a nm wv ws kv kids hk hw hws hkv hks ih =>
  intro hsm st
  cases hsm with
  | mk _ _ _ _ _ _ _ hn hwl hkl hwz hkz hws' hks' =>
  have hk11 : callable Try.prog 11 = true := by kernel_rfl
  have hk17 : callable Try.prog 17 = true := by kernel_rfl
  have hk18 : callable Try.prog 18 = true := by kernel_rfl
  have hk19 : callable Try.prog 19 = true := by kernel_rfl
  have ow := hw.one
  have okv := hkv.one
  have oi : ∀ k n, oneC (.int k n) = true := fun _ _ => rfl
  have os : ∀ s, oneC (.str s) = true := fun _ => rfl
  have lx := hw.len Try.underlying22
  have lk := hkv.len Try.underlying23
  refine call_ex (NY.no _ rfl rfl _ _) Try.func11 rfl (by kernel_rfl) ?_
  repeat refine Does.seq ?_
  refine Does.region ?_
  simp [valloc, V.cells, Cw.cells, ow, oi, os, okv, mkRef]
  have hk1 := newCmd_keep st k a nm wv kv
  have b1 := newCmd_box st k a nm wv kv
  have hct := newCmd_ctr st k a nm wv kv
  rw [show ({ ctr := st.ctr + 1, box := st.box.put st.ctr (.cells [.int .u8 (k : Int), .int .i64 a, .str nm, wv, kv] 25 true (some 0)) } : St) = newCmd st k a nm wv kv from rfl]
  revert hk1 b1 hct
  generalize newCmd st k a nm wv kv = st1
  generalize hid1 : st.ctr = id1
  intro hk1 b1 hct
  have l4 := vload_of (P := Try.prog) (off := 4) sa23 sz23 b1 rfl
  have f0 := cg0 id1
  have f2 := cg2 id1
  have f3 := cg3 id1
  have f4 := cg4 id1
  rw [show mayC (.mk k a nm wv ws kv kids) = (mayCs kids && kindB k kids.length nm ws) from rfl]
  repeat refine Does.seq ?_
  refine Does.region ?_
  simp [f4, l4, lk]
  generalize hA : mayCs kids = A
  refine Does.mono (Q := KidQ gl id1 st1 A) ?loop ?tail
  case loop => as_aux_lemma =>
    refine Does.block (Does.up kids.length (fun i fr st' => Keep st1 st' ∧ CmdF gl id1 fr ∧ Fr.at fr 8 = kv ∧ Fr.at fr 9 = .int .i64 (kids.length : Int) ∧ Fr.at fr 10 = .int .i64 (i : Int) ∧ i ≤ kids.length ∧ KidsTo kids i) 0 ?init ?bound ?step)
    case init => exact ⟨.refl st1, ⟨by simp, by simp, by simp⟩, by simp, by simp, by simp, Nat.zero_le _, kids_zero _⟩
    case bound => exact fun i fr st' h => h.2.2.2.2.2.1
    case step =>
      rintro i fr st' ⟨hk, ⟨hds, hg, h1⟩, h8, h9, h10, hi, hall⟩
      have elen : ∀ kk, vbin Try.prog kk .lss 3 (.int .i64 (i : Int)) (.int .i64 (kids.length : Int)) = some (.bool (decide (i < kids.length))) := fun kk => vI_lss rfl
      repeat refine Does.seq ?_
      refine Does.region ?_
      by_cases hlt : i < kids.length
      rotate_left
      · rw [decide_eq_false hlt] at elen
        simp [h9, h10, elen]
        repeat refine Does.seq ?_
        refine Does.condF (by simp) ?_
        refine Does.exit ?_
        simp only [inBlock, if_true, andThen]
        exact .inr ⟨rfl, hk, ⟨by simp [hds], by simp [hg], by simp [h1]⟩, by rw [← hA]; exact kids_end hall (by omega)⟩
      · rw [decide_eq_true hlt] at elen
        obtain ⟨r, g1⟩ := hkv.get (z := 5) (fun c _ => c.len5) Try.underlying23 z25 hlt
        have i1 := g1 .i64
        have hm := List.getElem_mem hlt
        have hld := load25 kids[i] r st'
        have hpk := putCmd_keep st' kids[i]
        have hpb := putCmd_box st' kids[i]
        have hps := putCmd_store st' (hks _ hm)
        have hl2 := vload25 hpb
        obtain ⟨v, st2, hc, rfl, hk2⟩ := ih _ hm (hks' _ hm) (putCmd st' kids[i])
        have hc := ihCall_W hc
        have hstep := fun h => kids_step hall hlt h
        have hnot := fun h => kids_no hlt h
        generalize putCmd st' kids[i] = st3 at hpk hps hl2 hc hk2
        clear hpb
        generalize mayC kids[i] = mb at hc hstep hnot
        generalize kids[i].cells = cs at hld hc i1 hps hl2
        have w1 : IntKind.i64.wrap ((i : Int) + 1) = (i : Int) + 1 := wrap_i64 (by omega) (by omega)
        simp [h9, h10, elen]
        repeat refine Does.seq ?_
        refine Does.condT (by simp) ?_
        refine Does.skip ?_
        simp
        repeat refine Does.seq ?_
        refine Does.block ?_
        repeat refine Does.seq ?_
        refine Does.region ?_
        simp [h8, h10, i1, hld, valloc, zs25, V.cells, oneC, mkRef, vact, hps]
        repeat refine Does.seq ?_
        refine Does.region ?_
        simp [hl2, hg, vcall_callable hk11, hc]
        repeat refine Does.seq ?_
        cases mb with
        | false =>
          refine Does.condT (by simp) ?_
          repeat refine Does.seq ?_
          refine Does.region ?_
          simp
          refine Does.ret ?_
          simp only [andThen, inBlock]
          exact .inl ⟨rfl, (hk.trans hpk).trans hk2, by simp [hds], by simp, by rw [← hA]; exact hnot rfl⟩
        | true =>
          refine Does.condF (by simp) ?_
          refine Does.skip ?_
          simp only [andThen, inBlock]
          refine Does.region ?_
          simp [h10, vbin_add, w1]
          exact ⟨i + 1, by omega, (hk.trans hpk).trans hk2, ⟨by simp [hds], by simp [hg], by simp [h1]⟩, by simp [h8], by simp [h9], by simp, by omega, hstep rfl⟩
  case tail => as_aux_lemma =>
    rintro e fr st2 (⟨rfl, hk, hds, h2, rfl⟩ | ⟨rfl, hk, ⟨hds, hg, h1⟩, rfl⟩)
    · simp only [andThen]
      simp [hds, h2]
      exact hk1.trans hk
    simp only [andThen, Bool.true_and]
    have b2 : st2.box.get id1 = some (.cells [.int .u8 (k : Int), .int .i64 a, .str nm, wv, kv] 25 true (some 0)) := by rw [hk.box _ hct]; exact b1
    have m0 := vload_of (P := Try.prog) (off := 0) sa5 sz5 b2 rfl
    have m2 := vload_of (P := Try.prog) (off := 2) sa9 sz9 b2 rfl
    have m3 := vload_of (P := Try.prog) (off := 3) sa22 sz22 b2 rfl
    have m4 := vload_of (P := Try.prog) (off := 4) sa23 sz23 b2 rfl
    have m25 : vload Try.prog st2 25 (.ptr id1 0) = some (.agg [.int .u8 (k : Int), .int .i64 a, .str nm, wv, kv]) := vload25 (c := .mk k a nm wv ws kv kids) b2
    have hk12 := hk1.trans hk
    have hemp := same_empty nm
    have e0 : ∀ kk, vbin Try.prog kk .eql 3 (.int .i64 (ws.length : Int)) (.int .i64 0) = some (.bool (decide (ws.length = 0))) := fun kk => vI_eql rfl
    repeat refine Does.seq ?_
    refine Does.region ?_
    simp [h1, f4, m4, lk]
    repeat refine Does.seq ?_
    refine Does.mono (Q := fun e fr st' => e = AE.normal ∧ AtSt st2 st' ∧ KindF gl id1 kids.length (bareB nm ws) fr) ?r8 ?t8
    case r8 => as_aux_lemma =>
      refine Does.region ?_
      unfold bareB
      generalize decide (nm.n = 0) = D at hemp
      generalize decide (ws.length = 0) = E at e0
      cases D with
      | false =>
        simp [h1, f2, m2, vbin_seql, hemp]
        exact ⟨rfl, ⟨by simp [hds], by simp [hg], by simp [h1]⟩, by simp, by simp⟩
      | true =>
        simp [h1, f2, m2, vbin_seql, hemp, f3, m3, lx, e0]
        exact ⟨rfl, ⟨by simp [hds], by simp [hg], by simp [h1]⟩, by simp, by simp⟩
    case t8 => as_aux_lemma =>
    clear hds hg h1 hemp e0
    rintro e fr st' ⟨rfl, hst', ⟨hds, hg, h1⟩, h5, h6⟩
    rw [show st' = st2 from hst']
    clear hst'
    simp only [andThen]
    repeat refine Does.seq ?_
    refine Does.region ?_
    refine Oks.cont (Q := fun fr st' => AtSt st2 st' ∧ KindF gl id1 kids.length (bareB nm ws) fr ∧ Fr.at fr 31 = .int .u8 (k : Int)) ?r9 ?t9
    case r9 => as_aux_lemma =>
      simp [h1, f0, m0]
      exact ⟨rfl, ⟨by simp [hds], by simp [hg], by simp [h1]⟩, by simp [h5], by simp [h6]⟩
    case t9 => as_aux_lemma =>
    clear hds hg h1 h5 h6
    rintro fr st' ⟨hst', ⟨⟨hds, hg, h1⟩, h5, h6⟩, h31⟩
    rw [show st' = st2 from hst']
    clear hst'
    simp only [andThen]
    repeat refine Does.seq ?_
    generalize hB : bareB nm ws = bare at h6
    refine Does.mono (Q := KindQ st2 (kindB k kids.length nm ws)) ?blk ?fin
    case fin => as_aux_lemma =>
      rintro e fr st' (⟨rfl, hk', hds, h2⟩ | ⟨rfl, hk', hds, hb⟩)
      · simp only [andThen]
        simp [hds, h2]
        exact hk12.trans hk'
      · simp only [andThen]
        repeat refine Does.seq ?_
        refine Does.region ?_
        simp
        refine Does.ret ?_
        simp [hds, hb]
        exact hk12.trans hk'
    case blk => as_aux_lemma =>
      have e1 : ∀ kk, vbin Try.prog kk .eql 5 (.int .u8 (k : Int)) (.int .u8 1) = some (.bool (decide (k = 1))) := fun kk => vI_eql rfl
      have e2 : ∀ kk, vbin Try.prog kk .eql 5 (.int .u8 (k : Int)) (.int .u8 2) = some (.bool (decide (k = 2))) := fun kk => vI_eql rfl
      have e3 : ∀ kk, vbin Try.prog kk .eql 5 (.int .u8 (k : Int)) (.int .u8 3) = some (.bool (decide (k = 3))) := fun kk => vI_eql rfl
      have e4 : ∀ kk, vbin Try.prog kk .eql 5 (.int .u8 (k : Int)) (.int .u8 4) = some (.bool (decide (k = 4))) := fun kk => vI_eql rfl
      have e5 : ∀ kk, vbin Try.prog kk .eql 5 (.int .u8 (k : Int)) (.int .u8 5) = some (.bool (decide (k = 5))) := fun kk => vI_eql rfl
      have e6 : ∀ kk, vbin Try.prog kk .eql 5 (.int .u8 (k : Int)) (.int .u8 6) = some (.bool (decide (k = 6))) := fun kk => vI_eql rfl
      have e7 : ∀ kk, vbin Try.prog kk .eql 5 (.int .u8 (k : Int)) (.int .u8 7) = some (.bool (decide (k = 7))) := fun kk => vI_eql rfl
      have e8 : ∀ kk, vbin Try.prog kk .eql 5 (.int .u8 (k : Int)) (.int .u8 8) = some (.bool (decide (k = 8))) := fun kk => vI_eql rfl
      have e9 : ∀ kk, vbin Try.prog kk .eql 5 (.int .u8 (k : Int)) (.int .u8 9) = some (.bool (decide (k = 9))) := fun kk => vI_eql rfl
      have n0 : ∀ kk, vbin Try.prog kk .eql 3 (.int .i64 (kids.length : Int)) (.int .i64 0) = some (.bool (decide (kids.length = 0))) := fun kk => vI_eql rfl
      have n1 : ∀ kk, vbin Try.prog kk .eql 3 (.int .i64 (kids.length : Int)) (.int .i64 1) = some (.bool (decide (kids.length = 1))) := fun kk => vI_eql rfl
      have n2 : ∀ kk, vbin Try.prog kk .eql 3 (.int .i64 (kids.length : Int)) (.int .i64 2) = some (.bool (decide (kids.length = 2))) := fun kk => vI_eql rfl
      have n3 : ∀ kk, vbin Try.prog kk .eql 3 (.int .i64 (kids.length : Int)) (.int .i64 3) = some (.bool (decide (kids.length = 3))) := fun kk => vI_eql rfl
      have g2 : ∀ kk, vbin Try.prog kk .geq 3 (.int .i64 (kids.length : Int)) (.int .i64 2) = some (.bool (decide (2 ≤ kids.length))) := fun kk => vI_geq rfl
      have e64 : ∀ kk, vbin Try.prog kk .leq 3 (.int .i64 (ws.length : Int)) (.int .i64 64) = some (.bool (decide (ws.length ≤ 64))) := fun kk => vI_leq rfl
      obtain ⟨v, st3, hc17, rfl, hk3⟩ := wSimple_ok gl hh st2 k a nm wv ws kv hn hwl hwz okv hw hws hws'
      have hc17 := ihCall_W hc17
      have hc18 := ihCall_W (wName gl st2 nm (by omega))
      obtain ⟨v, st4, hc19, rfl, hk4⟩ := wAll_ok gl hh st2 wv ws hw hws hws' hwl
      have hc19 := ihCall_W hc19
      unfold kindB kindP
      rw [hB]
      unfold forB
      generalize (decide (k = 1)) = d1 at e1
      generalize (decide (k = 2)) = d2 at e2
      generalize (decide (k = 3)) = d3 at e3
      generalize (decide (k = 4)) = d4 at e4
      generalize (decide (k = 5)) = d5 at e5
      generalize (decide (k = 6)) = d6 at e6
      generalize (decide (k = 7)) = d7 at e7
      generalize (decide (k = 8)) = d8 at e8
      generalize (decide (k = 9)) = d9 at e9
      generalize decide (kids.length = 0) = q0 at n0
      generalize decide (kids.length = 1) = q1 at n1
      generalize decide (kids.length = 2) = q2 at n2
      generalize decide (kids.length = 3) = q3 at n3
      generalize decide (2 ≤ kids.length) = r2 at g2
      generalize decide (ws.length ≤ 64) = r64 at e64
      generalize simpleB nm ws = sim at hc17
      generalize nameL nm.toList = nl at hc18
      generalize ws.all Ww.may = al at hc19
      generalize (kids.length : Int) = kl at h5 n0 n1 n2 n3 g2
      generalize (k : Int) = ki at h31 e1 e2 e3 e4 e5 e6 e7 e8 e9 m25 hc17
      generalize V.agg [.int .u8 ki, .int .i64 a, .str nm, wv, kv] = cv at m25 hc17
      generalize hBB : (cond d1 _ _) = BB
      clear hk11 hn hws' hwl hkl hwz hkz hw hws hkv hks ih hks' hk1 b1 hct l4 f0 f4 hk b2 m0 m4 hk12 hh
      refine Does.block ?_
      repeat refine Does.seq ?_
      refine Does.region ?_
      cases d1 with
      | true =>
        simp [h31, e1]
        repeat refine Does.seq ?_
        refine Does.condT (by simp) ?_
        repeat refine Does.seq ?_
        refine Does.region ?_
        cases q0 with
        | false =>
          simp [h5, n0]
          refine Does.ret ?_
          simp only [andThen, inBlock]
          exact .inl ⟨rfl, .refl _, by simp [hds], by rw [← hBB]; simp⟩
        | true =>
          simp [h5, n0, h1, m25, hg, vcall_callable hk17, hc17]
          refine Does.ret ?_
          simp only [andThen, inBlock]
          exact .inl ⟨rfl, hk3, by simp [hds], by rw [← hBB]; simp⟩
      | false =>
      simp [h31, e1]
      repeat refine Does.seq ?_
      refine Does.condF (by simp) ?_
      repeat refine Does.seq ?_
      refine Does.region ?_
      cases d2 with
      | true =>
        simp [h31, e2]
        repeat refine Does.seq ?_
        refine Does.condT (by simp) ?_
        repeat refine Does.seq ?_
        refine Does.region ?_
        cases bare <;> simp [h5, h6, n1] <;> refine Does.ret ?_ <;> simp only [andThen, inBlock] <;> exact .inl ⟨rfl, .refl _, by simp [hds], by rw [← hBB]; simp⟩
      | false =>
      simp [h31, e2]
      repeat refine Does.seq ?_
      refine Does.condF (by simp) ?_
      repeat refine Does.seq ?_
      refine Does.region ?_
      refine Oks.cont (Q := fun fr st' => ChainQ gl id1 ki kl bare st2 d3 AE.normal fr st') ?r14a ?t14a
      case r14a => as_aux_lemma =>
        simp [h31, e3]
        exact ⟨rfl, rfl, ⟨by simp [hds], by simp [hg], by simp [h1]⟩, by simp [h5], by simp [h6], by simp [h31], by simp⟩
      case t14a => as_aux_lemma =>
      clear hds hg h1 h5 h6 h31
      rintro fr st' ⟨_, hst', ⟨hds, hg, h1⟩, h5, h6, h31, h47⟩
      rw [show st' = st2 from hst']
      clear hst'
      simp only [andThen]
      repeat refine Does.seq ?_
      refine Does.mono (Q := ChainQ gl id1 ki kl bare st2 (cond d3 true (cond d4 true (cond d7 true d8)))) ?r14 ?t14
      case r14 => as_aux_lemma =>
        cases d3 with
        | true =>
          refine Does.condT (by simp [h47]) ?_
          refine Does.skip ?_
          exact ⟨rfl, rfl, ⟨by simp [hds], by simp [hg], by simp [h1]⟩, by simp [h5], by simp [h6], by simp [h31], by simp [h47]⟩
        | false =>
        refine Does.condF (by simp [h47]) ?_
        repeat refine Does.seq ?_
        refine Does.region ?_
        cases d4 with
        | true =>
          simp [h31, e4]
          repeat refine Does.seq ?_
          refine Does.condT (by simp) ?_
          refine Does.skip ?_
          exact ⟨rfl, rfl, ⟨by simp [hds], by simp [hg], by simp [h1]⟩, by simp [h5], by simp [h6], by simp [h31], by simp⟩
        | false =>
        simp [h31, e4]
        repeat refine Does.seq ?_
        refine Does.condF (by simp) ?_
        repeat refine Does.seq ?_
        refine Does.region ?_
        cases d7 with
        | true =>
          simp [h31, e7]
          repeat refine Does.seq ?_
          refine Does.condT (by simp) ?_
          refine Does.skip ?_
          exact ⟨rfl, rfl, ⟨by simp [hds], by simp [hg], by simp [h1]⟩, by simp [h5], by simp [h6], by simp [h31], by simp⟩
        | false =>
        simp [h31, e7]
        repeat refine Does.seq ?_
        refine Does.condF (by simp) ?_
        repeat refine Does.seq ?_
        refine Does.region ?_
        simp [h31, e8]
        exact ⟨rfl, rfl, ⟨by simp [hds], by simp [hg], by simp [h1]⟩, by simp [h5], by simp [h6], by simp [h31], by simp⟩
      case t14 => as_aux_lemma =>
        clear hds hg h1 h5 h6 h31
        rintro e fr st' ⟨rfl, hst', ⟨hds, hg, h1⟩, h5, h6, h31, h47⟩
        rw [show st' = st2 from hst']
        clear hst'
        simp only [andThen]
        repeat refine Does.seq ?_
        generalize (cond d3 true (cond d4 true (cond d7 true d8))) = d at h47 hBB
        cases d with
        | true =>
          refine Does.condT (by simp [h47]) ?_
          repeat refine Does.seq ?_
          refine Does.region ?_
          cases bare <;> simp [h5, h6, n2] <;> refine Does.ret ?_ <;> simp only [andThen, inBlock] <;> exact .inl ⟨rfl, .refl _, by simp [hds], by rw [← hBB]; simp⟩
        | false =>
        refine Does.condF (by simp [h47]) ?_
        repeat refine Does.seq ?_
        refine Does.region ?_
        cases d5 with
        | true =>
          simp [h31, e5]
          repeat refine Does.seq ?_
          refine Does.condT (by simp) ?_
          repeat refine Does.seq ?_
          refine Does.region ?_
          cases bare <;> simp [h5, h6, g2] <;> refine Does.ret ?_ <;> simp only [andThen, inBlock] <;> exact .inl ⟨rfl, .refl _, by simp [hds], by rw [← hBB]; simp⟩
        | false =>
        simp [h31, e5]
        repeat refine Does.seq ?_
        refine Does.condF (by simp) ?_
        repeat refine Does.seq ?_
        refine Does.region ?_
        cases d6 with
        | true =>
          simp [h31, e6]
          repeat refine Does.seq ?_
          refine Does.condT (by simp) ?_
          repeat refine Does.seq ?_
          refine Does.region ?_
          cases bare <;> cases q2 <;> simp [h5, h6, n2, n3] <;> refine Does.ret ?_ <;> simp only [andThen, inBlock] <;> exact .inl ⟨rfl, .refl _, by simp [hds], by rw [← hBB]; simp⟩
        | false =>
        simp [h31, e6]
        repeat refine Does.seq ?_
        refine Does.condF (by simp) ?_
        repeat refine Does.seq ?_
        refine Does.region ?_
        cases d9 with
        | false =>
          simp [h31, e9]
          repeat refine Does.seq ?_
          refine Does.condF (by simp) ?_
          refine Does.skip ?_
          simp only [andThen, inBlock]
          exact .inr ⟨rfl, .refl _, by simp [hds], by rw [← hBB]; rfl⟩
        | true =>
          simp [h31, e9]
          repeat refine Does.seq ?_
          refine Does.condT (by simp) ?_
          repeat refine Does.seq ?_
          refine Does.region ?_
          cases q1 with
          | false =>
            simp [h5, n1]
            refine Does.ret ?_
            simp only [andThen, inBlock]
            exact .inl ⟨rfl, .refl _, by simp [hds], by rw [← hBB]; simp⟩
          | true =>
          cases nl with
          | false =>
            simp [h5, n1, h1, f2, m2, hg, vcall_callable hk18, hc18]
            refine Does.ret ?_
            simp only [andThen, inBlock]
            exact .inl ⟨rfl, .refl _, by simp [hds], by rw [← hBB]; simp⟩
          | true =>
          cases r64 with
          | false =>
            simp [h5, n1, h1, f2, m2, hg, vcall_callable hk18, hc18, f3, m3, lx, e64]
            refine Does.ret ?_
            simp only [andThen, inBlock]
            exact .inl ⟨rfl, .refl _, by simp [hds], by rw [← hBB]; simp⟩
          | true =>
            simp [h5, n1, h1, f2, m2, hg, vcall_callable hk18, hc18, f3, m3, lx, e64, vcall_callable hk19, hc19]
            refine Does.ret ?_
            simp only [andThen, inBlock]
            exact .inl ⟨rfl, hk4, by simp [hds], by rw [← hBB]; simp⟩
end Go.Vm

namespace Go.Vm
open Go Go.Proofs Go.Sy
attribute [local simp] Oks xOps vwanted isDefer vop kindOf vpure ev evs toV andThen inBlock atTo_some Fr.dsTo Fr.glTo Fr.toNone initFr_at initFr_ds initFr_gl veff traverse tupled vresult V.undef evOpt xDraw xStep

def kindR (d1 d2 d3 d4 d7 d8 d5 d6 d9 : Bool) (n : Nat) (bare sim fr : Bool) : Bool :=
  cond d1 (decide (n = 0) && sim) (cond d9 (decide (n = 1) && fr) (cond (!bare) false (cond d2 (decide (n = 1)) (cond (cond d3 true (cond d4 true (cond d7 true d8))) (decide (n = 2)) (cond d5 (decide (1 < n)) (cond d6 (decide (n = 2) || decide (n = 3)) false))))))
theorem kindR_eq (k n : Nat) (nm : S) (ws : List Ww) : kindB k n nm ws = kindR (decide (k = 1)) (decide (k = 2)) (decide (k = 3)) (decide (k = 4)) (decide (k = 7)) (decide (k = 8)) (decide (k = 5)) (decide (k = 6)) (decide (k = 9)) n (bareB nm ws) (simpleB nm ws) (forB nm ws) := by
  unfold kindB
  generalize bareB nm ws = b
  generalize simpleB nm ws = s
  generalize forB nm ws = f
  have : decide (2 ≤ n) = decide (1 < n) := rfl
  unfold kindP kindR
  rw [this]
  by_cases h1 : k = 1
  · subst h1; rfl
  by_cases h2 : k = 2
  · subst h2; cases b <;> simp
  by_cases h3 : k = 3
  · subst h3; cases b <;> simp
  by_cases h4 : k = 4
  · subst h4; cases b <;> simp
  by_cases h5 : k = 5
  · subst h5; cases b <;> simp
  by_cases h6 : k = 6
  · subst h6; cases b <;> simp
  by_cases h7 : k = 7
  · subst h7; cases b <;> simp
  by_cases h8 : k = 8
  · subst h8; cases b <;> simp
  by_cases h9 : k = 9
  · subst h9; simp
  simp [h1, h2, h3, h4, h5, h6, h7, h8, h9]

def Chain12 (gl : Gl) (id1 : Nat) (ki kl : Int) (st : St) (b : Bool) (e : AE) (fr : Fr) (st' : St) : Prop :=
  e = AE.normal ∧ AtSt st st' ∧ CmdF gl id1 fr ∧ Fr.at fr 4 = .int .i64 kl ∧ Fr.at fr 66 = .int .u8 ki ∧ Fr.at fr 71 = .bool b

variable [Memo] [NY]

set_option maxHeartbeats 1000000 in
theorem rone_ok (gl : Gl) (c : Cw) (hok : c.ok) : c.small → ∀ st : St,
    ∃ v st', W Try.prog (.call gl 12 [.agg c.cells]) st = .call (.val v st') ∧ v = .bool (mayC c) ∧ Keep st st' := by
  induction hok with
  | mk k a nm wv ws kv kids hk hw hws hkv hks ih =>
  intro hsm st
  cases hsm with
  | mk _ _ _ _ _ _ _ hn hwl hkl hwz hkz hws' hks' =>
  have hk12' : callable Try.prog 12 = true := by kernel_rfl
  have hk17 : callable Try.prog 20 = true := by kernel_rfl
  have hk18 : callable Try.prog 21 = true := by kernel_rfl
  have hk19 : callable Try.prog 22 = true := by kernel_rfl
  have ow := hw.one
  have okv := hkv.one
  have oi : ∀ k n, oneC (.int k n) = true := fun _ _ => rfl
  have os : ∀ s, oneC (.str s) = true := fun _ => rfl
  have lx := hw.len Try.underlying22
  have lk := hkv.len Try.underlying23
  refine call_ex (NY.no _ rfl rfl _ _) Try.func12 rfl (by kernel_rfl) ?_
  repeat refine Does.seq ?_
  refine Does.region ?_
  simp [valloc, V.cells, Cw.cells, ow, oi, os, okv, mkRef]
  have hk1 := newCmd_keep st k a nm wv kv
  have b1 := newCmd_box st k a nm wv kv
  have hct := newCmd_ctr st k a nm wv kv
  rw [show ({ ctr := st.ctr + 1, box := st.box.put st.ctr (.cells [.int .u8 (k : Int), .int .i64 a, .str nm, wv, kv] 25 true (some 0)) } : St) = newCmd st k a nm wv kv from rfl]
  revert hk1 b1 hct
  generalize newCmd st k a nm wv kv = st1
  generalize hid1 : st.ctr = id1
  intro hk1 b1 hct
  have l4 := vload_of (P := Try.prog) (off := 4) sa23 sz23 b1 rfl
  have f0 := cg0 id1
  have f2 := cg2 id1
  have f3 := cg3 id1
  have f4 := cg4 id1
  rw [show mayC (.mk k a nm wv ws kv kids) = (mayCs kids && kindB k kids.length nm ws) from rfl]
  repeat refine Does.seq ?_
  refine Does.region ?_
  simp
  generalize hA : mayCs kids = A
  refine Does.mono (Q := KidQ gl id1 st1 A) ?loop ?tail
  case loop => as_aux_lemma =>
    refine Does.block (Does.up kids.length (fun i fr st' => Keep st1 st' ∧ CmdF gl id1 fr ∧ Fr.at fr 3 = .int .i64 (i : Int) ∧ i ≤ kids.length ∧ KidsTo kids i) 0 ?init ?bound ?step)
    case init => exact ⟨.refl st1, ⟨by simp, by simp, by simp⟩, by simp, Nat.zero_le _, kids_zero _⟩
    case bound => exact fun i fr st' h => h.2.2.2.1
    case step =>
      rintro i fr st' ⟨hk, ⟨hds, hg, h1⟩, h3, hi, hall⟩
      have elen : ∀ kk, vbin Try.prog kk .lss 3 (.int .i64 (i : Int)) (.int .i64 (kids.length : Int)) = some (.bool (decide (i < kids.length))) := fun kk => vI_lss rfl
      have b2 : st'.box.get id1 = some (.cells [.int .u8 (k : Int), .int .i64 a, .str nm, wv, kv] 25 true (some 0)) := by rw [hk.box _ hct]; exact b1
      have m4 := vload_of (P := Try.prog) (off := 4) sa23 sz23 b2 rfl
      repeat refine Does.seq ?_
      refine Does.region ?_
      by_cases hlt : i < kids.length
      rotate_left
      · rw [decide_eq_false hlt] at elen
        simp [h1, h3, f4, m4, lk, elen]
        repeat refine Does.seq ?_
        refine Does.condF (by simp) ?_
        refine Does.exit ?_
        simp only [inBlock, if_true, andThen]
        exact .inr ⟨rfl, hk, ⟨by simp [hds], by simp [hg], by simp [h1]⟩, by rw [← hA]; exact kids_end hall (by omega)⟩
      · rw [decide_eq_true hlt] at elen
        obtain ⟨r, g1⟩ := hkv.get (z := 5) (fun c _ => c.len5) Try.underlying23 z25 hlt
        have i1 := g1 .i64
        have hm := List.getElem_mem hlt
        have hld := load25 kids[i] r st'
        obtain ⟨v, st2, hc, rfl, hk2⟩ := ih _ hm (hks' _ hm) st'
        have hc := ihCall_W hc
        have hstep := fun h => kids_step hall hlt h
        have hnot := fun h => kids_no hlt h
        generalize mayC kids[i] = mb at hc hstep hnot
        generalize kids[i].cells = cs at hld hc i1
        have w1 : IntKind.i64.wrap ((i : Int) + 1) = (i : Int) + 1 := wrap_i64 (by omega) (by omega)
        simp [h1, h3, f4, m4, lk, elen]
        repeat refine Does.seq ?_
        refine Does.condT (by simp) ?_
        refine Does.skip ?_
        simp
        repeat refine Does.seq ?_
        refine Does.block ?_
        repeat refine Does.seq ?_
        refine Does.region ?_
        simp [h1, h3, f4, m4, i1, hld, hg, vcall_callable hk12', hc]
        repeat refine Does.seq ?_
        cases mb with
        | false =>
          refine Does.condT (by simp) ?_
          repeat refine Does.seq ?_
          refine Does.region ?_
          simp
          refine Does.ret ?_
          simp only [andThen, inBlock]
          exact .inl ⟨rfl, hk.trans hk2, by simp [hds], by simp, by rw [← hA]; exact hnot rfl⟩
        | true =>
          refine Does.condF (by simp) ?_
          refine Does.skip ?_
          simp only [andThen, inBlock]
          refine Does.region ?_
          simp [h3, vbin_add, w1]
          exact ⟨i + 1, by omega, hk.trans hk2, ⟨by simp [hds], by simp [hg], by simp [h1]⟩, by simp, by omega, hstep rfl⟩
  case tail => as_aux_lemma =>
    rintro e fr st2 (⟨rfl, hk, hds, h2, rfl⟩ | ⟨rfl, hk, ⟨hds, hg, h1⟩, rfl⟩)
    · simp only [andThen]
      simp [hds, h2]
      exact hk1.trans hk
    simp only [andThen, Bool.true_and]
    have b2 : st2.box.get id1 = some (.cells [.int .u8 (k : Int), .int .i64 a, .str nm, wv, kv] 25 true (some 0)) := by rw [hk.box _ hct]; exact b1
    have m0 := vload_of (P := Try.prog) (off := 0) sa5 sz5 b2 rfl
    have m2 := vload_of (P := Try.prog) (off := 2) sa9 sz9 b2 rfl
    have m3 := vload_of (P := Try.prog) (off := 3) sa22 sz22 b2 rfl
    have m4 := vload_of (P := Try.prog) (off := 4) sa23 sz23 b2 rfl
    have m25 : vload Try.prog st2 25 (.ptr id1 0) = some (.agg [.int .u8 (k : Int), .int .i64 a, .str nm, wv, kv]) := vload25 (c := .mk k a nm wv ws kv kids) b2
    have hk12 := hk1.trans hk
    have hemp := same_empty nm
    have e0 : ∀ kk, vbin Try.prog kk .gtr 3 (.int .i64 (ws.length : Int)) (.int .i64 0) = some (.bool (!decide (ws.length = 0))) := fun kk => by
      have := vI_gtr (P := Try.prog) (kk := kk) (T := 3) (q := .i64) (c := ws.length) (m := 0) (k := 0) rfl
      rw [this]
      congr 2
      by_cases h : ws.length = 0
      · rw [decide_eq_true h, h]; rfl
      · rw [decide_eq_false h, decide_eq_true (by omega)]; rfl
    have e1 : ∀ kk, vbin Try.prog kk .eql 5 (.int .u8 (k : Int)) (.int .u8 1) = some (.bool (decide (k = 1))) := fun kk => vI_eql rfl
    have e2 : ∀ kk, vbin Try.prog kk .eql 5 (.int .u8 (k : Int)) (.int .u8 2) = some (.bool (decide (k = 2))) := fun kk => vI_eql rfl
    have e3 : ∀ kk, vbin Try.prog kk .eql 5 (.int .u8 (k : Int)) (.int .u8 3) = some (.bool (decide (k = 3))) := fun kk => vI_eql rfl
    have e4 : ∀ kk, vbin Try.prog kk .eql 5 (.int .u8 (k : Int)) (.int .u8 4) = some (.bool (decide (k = 4))) := fun kk => vI_eql rfl
    have e5 : ∀ kk, vbin Try.prog kk .eql 5 (.int .u8 (k : Int)) (.int .u8 5) = some (.bool (decide (k = 5))) := fun kk => vI_eql rfl
    have e6 : ∀ kk, vbin Try.prog kk .eql 5 (.int .u8 (k : Int)) (.int .u8 6) = some (.bool (decide (k = 6))) := fun kk => vI_eql rfl
    have e7 : ∀ kk, vbin Try.prog kk .eql 5 (.int .u8 (k : Int)) (.int .u8 7) = some (.bool (decide (k = 7))) := fun kk => vI_eql rfl
    have e8 : ∀ kk, vbin Try.prog kk .eql 5 (.int .u8 (k : Int)) (.int .u8 8) = some (.bool (decide (k = 8))) := fun kk => vI_eql rfl
    have e9 : ∀ kk, vbin Try.prog kk .eql 5 (.int .u8 (k : Int)) (.int .u8 9) = some (.bool (decide (k = 9))) := fun kk => vI_eql rfl
    have n0 : ∀ kk, vbin Try.prog kk .eql 3 (.int .i64 (kids.length : Int)) (.int .i64 0) = some (.bool (decide (kids.length = 0))) := fun kk => vI_eql rfl
    have n1 : ∀ kk, vbin Try.prog kk .eql 3 (.int .i64 (kids.length : Int)) (.int .i64 1) = some (.bool (decide (kids.length = 1))) := fun kk => vI_eql rfl
    have n2 : ∀ kk, vbin Try.prog kk .eql 3 (.int .i64 (kids.length : Int)) (.int .i64 2) = some (.bool (decide (kids.length = 2))) := fun kk => vI_eql rfl
    have n3 : ∀ kk, vbin Try.prog kk .eql 3 (.int .i64 (kids.length : Int)) (.int .i64 3) = some (.bool (decide (kids.length = 3))) := fun kk => vI_eql rfl
    have g2 : ∀ kk, vbin Try.prog kk .gtr 3 (.int .i64 (kids.length : Int)) (.int .i64 1) = some (.bool (decide (1 < kids.length))) := fun kk => vI_gtr rfl
    have e64 : ∀ kk, vbin Try.prog kk .leq 3 (.int .i64 (ws.length : Int)) (.int .i64 64) = some (.bool (decide (ws.length ≤ 64))) := fun kk => vI_leq rfl
    obtain ⟨v, st3, hc17, rfl, hk3⟩ := rSimple_ok gl st2 k a nm wv ws kv hn hwl okv hw hws hws'
    have hc17 := ihCall_W hc17
    have hc18 := ihCall_W (rName3 gl st2 nm (by omega))
    obtain ⟨v, st4, hc19, rfl, hk4⟩ := rWords_ok gl st2 wv ws hw hws hws' hwl
    have hc19 := ihCall_W hc19
    rw [kindR_eq]
    unfold kindR forB bareB
    generalize (decide (k = 1)) = d1 at e1
    generalize (decide (k = 2)) = d2 at e2
    generalize (decide (k = 3)) = d3 at e3
    generalize (decide (k = 4)) = d4 at e4
    generalize (decide (k = 5)) = d5 at e5
    generalize (decide (k = 6)) = d6 at e6
    generalize (decide (k = 7)) = d7 at e7
    generalize (decide (k = 8)) = d8 at e8
    generalize (decide (k = 9)) = d9 at e9
    generalize decide (kids.length = 0) = q0 at n0
    generalize decide (kids.length = 1) = q1 at n1
    generalize decide (kids.length = 2) = q2 at n2
    generalize decide (kids.length = 3) = q3 at n3
    generalize decide (1 < kids.length) = r2 at g2
    generalize decide (ws.length ≤ 64) = r64 at e64
    generalize simpleB nm ws = sim at hc17
    generalize nameL nm.toList = nl at hc18
    generalize ws.all Ww.may = al at hc19
    generalize decide (nm.n = 0) = D at hemp
    generalize decide (ws.length = 0) = E at e0
    generalize (ws.length : Int) = wl at e0 e64 lx
    generalize (kids.length : Int) = kl at lk n0 n1 n2 n3 g2
    generalize (k : Int) = ki at e1 e2 e3 e4 e5 e6 e7 e8 e9 m25 hc17 m0 b1 b2
    generalize V.agg [.int .u8 ki, .int .i64 a, .str nm, wv, kv] = cv at m25 hc17
    generalize hBB : (cond d1 _ _) = BB
    clear hk12' hn hws' hwl hkl hwz hkz hw hws hkv hks ih hks' b1 hct l4 hk b2
    repeat refine Does.seq ?_
    refine Does.region ?_
    cases d1 with
    | true =>
      simp [h1, f0, m0, e1]
      repeat refine Does.seq ?_
      refine Does.condT (by simp) ?_
      repeat refine Does.seq ?_
      refine Does.region ?_
      cases q0 with
      | false =>
        simp [h1, f4, m4, lk, n0]
        refine Does.ret ?_
        simp [hds, ← hBB]
        exact hk12
      | true =>
        simp [h1, f4, m4, lk, n0, m25, hg, vcall_callable hk17, hc17]
        refine Does.ret ?_
        simp [hds, ← hBB]
        exact hk12.trans hk3
    | false =>
    simp [h1, f0, m0, e1]
    repeat refine Does.seq ?_
    refine Does.condF (by simp) ?_
    refine Does.skip ?_
    simp
    repeat refine Does.seq ?_
    refine Does.region ?_
    cases d9 with
    | true =>
      simp [h1, f0, m0, e9]
      repeat refine Does.seq ?_
      refine Does.condT (by simp) ?_
      repeat refine Does.seq ?_
      refine Does.region ?_
      cases q1 with
      | false =>
        simp [h1, f4, m4, lk, n1]
        refine Does.ret ?_
        simp [hds, ← hBB]
        exact hk12
      | true =>
      cases nl with
      | false =>
        simp [h1, f4, m4, lk, n1, f2, m2, hg, vcall_callable hk18, hc18]
        refine Does.ret ?_
        simp [hds, ← hBB]
        exact hk12
      | true =>
      cases r64 with
      | false =>
        simp [h1, f4, m4, lk, n1, f2, m2, hg, vcall_callable hk18, hc18, f3, m3, lx, e64]
        refine Does.ret ?_
        simp [hds, ← hBB]
        exact hk12
      | true =>
        simp [h1, f4, m4, lk, n1, f2, m2, hg, vcall_callable hk18, hc18, f3, m3, lx, e64, vcall_callable hk19, hc19]
        refine Does.ret ?_
        simp [hds, ← hBB]
        exact hk12.trans hk4
    | false =>
    simp [h1, f0, m0, e9]
    repeat refine Does.seq ?_
    refine Does.condF (by simp) ?_
    refine Does.skip ?_
    simp
    repeat refine Does.seq ?_
    refine Does.region ?_
    refine Oks.cont (Q := fun fr st' => AtSt st2 st' ∧ CmdF gl id1 fr ∧ Fr.at fr 61 = .bool (!(D && E))) ?r10 ?t10
    case r10 => as_aux_lemma =>
      cases D with
      | false =>
        simp [h1, f2, m2, vbin_sneq, hemp]
        exact ⟨rfl, by simp [hds], by simp [hg], by simp [h1]⟩
      | true =>
        simp [h1, f2, m2, vbin_sneq, hemp, f3, m3, lx, e0]
        exact ⟨rfl, by simp [hds], by simp [hg], by simp [h1]⟩
    case t10 => as_aux_lemma =>
    clear hds hg h1
    rintro fr st' ⟨hst', ⟨hds, hg, h1⟩, h61⟩
    rw [show st' = st2 from hst']
    clear hst'
    simp only [andThen]
    repeat refine Does.seq ?_
    generalize (D && E) = bare at h61 hBB
    cases bare with
    | false =>
      refine Does.condT (by simp [h61]) ?_
      repeat refine Does.seq ?_
      refine Does.region ?_
      simp
      refine Does.ret ?_
      simp [hds, ← hBB]
      exact hk12
    | true =>
    refine Does.condF (by simp [h61]) ?_
    refine Does.skip ?_
    simp only [andThen]
    repeat refine Does.seq ?_
    refine Does.region ?_
    simp [h1, f4, m4, lk]
    repeat refine Does.seq ?_
    refine Does.region ?_
    refine Oks.cont (Q := fun fr st' => AtSt st2 st' ∧ CmdF gl id1 fr ∧ Fr.at fr 4 = .int .i64 kl ∧ Fr.at fr 66 = .int .u8 ki) ?r13 ?t13
    case r13 => as_aux_lemma =>
      simp [h1, f0, m0]
      exact ⟨rfl, by simp [hds], by simp [hg], by simp [h1]⟩
    case t13 => as_aux_lemma =>
    clear hds hg h1 h61
    rintro fr st' ⟨hst', ⟨hds, hg, h1⟩, h4, h66⟩
    rw [show st' = st2 from hst']
    clear hst'
    simp only [andThen]
    repeat refine Does.seq ?_
    refine Does.mono (Q := KindQ st2 BB) ?blk ?fin
    case fin => as_aux_lemma =>
      rintro e fr st' (⟨rfl, hk', hds, h2⟩ | ⟨rfl, hk', hds, hb⟩)
      · simp only [andThen]
        simp [hds, h2]
        exact hk12.trans hk'
      · simp only [andThen]
        repeat refine Does.seq ?_
        refine Does.region ?_
        simp
        refine Does.ret ?_
        simp [hds, hb]
        exact hk12.trans hk'
    case blk => as_aux_lemma =>
      refine Does.block ?_
      repeat refine Does.seq ?_
      refine Does.region ?_
      cases d2 with
      | true =>
        simp [h66, e2]
        repeat refine Does.seq ?_
        refine Does.condT (by simp) ?_
        repeat refine Does.seq ?_
        refine Does.region ?_
        simp [h4, n1]
        refine Does.ret ?_
        simp only [andThen, inBlock]
        exact .inl ⟨rfl, .refl _, by simp [hds], by rw [← hBB]; simp⟩
      | false =>
      simp [h66, e2]
      repeat refine Does.seq ?_
      refine Does.condF (by simp) ?_
      repeat refine Does.seq ?_
      refine Does.region ?_
      refine Oks.cont (Q := fun fr st' => Chain12 gl id1 ki kl st2 d3 AE.normal fr st') ?r14a ?t14a
      case r14a => as_aux_lemma =>
        simp [h66, e3]
        exact ⟨rfl, rfl, ⟨by simp [hds], by simp [hg], by simp [h1]⟩, by simp [h4], by simp [h66], by simp⟩
      case t14a => as_aux_lemma =>
      clear hds hg h1 h4 h66
      rintro fr st' ⟨_, hst', ⟨hds, hg, h1⟩, h4, h66, h71⟩
      rw [show st' = st2 from hst']
      clear hst'
      simp only [andThen]
      repeat refine Does.seq ?_
      refine Does.mono (Q := Chain12 gl id1 ki kl st2 (cond d3 true (cond d4 true (cond d7 true d8)))) ?r14 ?t14
      case r14 => as_aux_lemma =>
        cases d3 with
        | true =>
          refine Does.condT (by simp [h71]) ?_
          refine Does.skip ?_
          exact ⟨rfl, rfl, ⟨by simp [hds], by simp [hg], by simp [h1]⟩, by simp [h4], by simp [h66], by simp [h71]⟩
        | false =>
        refine Does.condF (by simp [h71]) ?_
        repeat refine Does.seq ?_
        refine Does.region ?_
        cases d4 with
        | true =>
          simp [h66, e4]
          repeat refine Does.seq ?_
          refine Does.condT (by simp) ?_
          refine Does.skip ?_
          exact ⟨rfl, rfl, ⟨by simp [hds], by simp [hg], by simp [h1]⟩, by simp [h4], by simp [h66], by simp⟩
        | false =>
        simp [h66, e4]
        repeat refine Does.seq ?_
        refine Does.condF (by simp) ?_
        repeat refine Does.seq ?_
        refine Does.region ?_
        cases d7 with
        | true =>
          simp [h66, e7]
          repeat refine Does.seq ?_
          refine Does.condT (by simp) ?_
          refine Does.skip ?_
          exact ⟨rfl, rfl, ⟨by simp [hds], by simp [hg], by simp [h1]⟩, by simp [h4], by simp [h66], by simp⟩
        | false =>
        simp [h66, e7]
        repeat refine Does.seq ?_
        refine Does.condF (by simp) ?_
        repeat refine Does.seq ?_
        refine Does.region ?_
        simp [h66, e8]
        exact ⟨rfl, rfl, ⟨by simp [hds], by simp [hg], by simp [h1]⟩, by simp [h4], by simp [h66], by simp⟩
      case t14 => as_aux_lemma =>
        clear hds hg h1 h4 h66 h71
        rintro e fr st' ⟨rfl, hst', ⟨hds, hg, h1⟩, h4, h66, h71⟩
        rw [show st' = st2 from hst']
        clear hst'
        simp only [andThen]
        repeat refine Does.seq ?_
        generalize (cond d3 true (cond d4 true (cond d7 true d8))) = d at h71 hBB
        cases d with
        | true =>
          refine Does.condT (by simp [h71]) ?_
          repeat refine Does.seq ?_
          refine Does.region ?_
          simp [h4, n2]
          refine Does.ret ?_
          simp only [andThen, inBlock]
          exact .inl ⟨rfl, .refl _, by simp [hds], by rw [← hBB]; simp⟩
        | false =>
        refine Does.condF (by simp [h71]) ?_
        repeat refine Does.seq ?_
        refine Does.region ?_
        cases d5 with
        | true =>
          simp [h66, e5]
          repeat refine Does.seq ?_
          refine Does.condT (by simp) ?_
          repeat refine Does.seq ?_
          refine Does.region ?_
          simp [h4, g2]
          refine Does.ret ?_
          simp only [andThen, inBlock]
          exact .inl ⟨rfl, .refl _, by simp [hds], by rw [← hBB]; simp⟩
        | false =>
        simp [h66, e5]
        repeat refine Does.seq ?_
        refine Does.condF (by simp) ?_
        repeat refine Does.seq ?_
        refine Does.region ?_
        cases d6 with
        | false =>
          simp [h66, e6]
          repeat refine Does.seq ?_
          refine Does.condF (by simp) ?_
          refine Does.skip ?_
          simp only [andThen, inBlock]
          exact .inr ⟨rfl, .refl _, by simp [hds], by rw [← hBB]; rfl⟩
        | true =>
          simp [h66, e6]
          repeat refine Does.seq ?_
          refine Does.condT (by simp) ?_
          repeat refine Does.seq ?_
          refine Does.region ?_
          cases q2 <;> simp [h4, n2, n3] <;> refine Does.ret ?_ <;> simp only [andThen, inBlock] <;> exact .inl ⟨rfl, .refl _, by simp [hds], by rw [← hBB]; simp⟩
end Go.Vm

namespace Go.Vm
open Go Go.Proofs Go.Sy
attribute [local simp] Oks xOps vwanted isDefer vop kindOf vpure ev evs toV andThen inBlock atTo_some Fr.dsTo Fr.glTo Fr.toNone initFr_at initFr_ds initFr_gl veff traverse tupled vresult V.undef evOpt xDraw xStep

/-- the greater, as the program's max has it -/
def mx (a b : Int) : Int := if b > a then b else a
theorem vmax (a b : Int) : viaSem Try.prog (fun l => Builtin.max_ #[] 0 l.toArray) [.int .i64 a, .int .i64 b] = some (.int .i64 (mx a b)) := rfl
mutual
def depC : Cw → Int
  | .mk _ _ _ _ _ _ kids => IntKind.i64.wrap (depCs kids 0 + 1)
def depCs : List Cw → Int → Int
  | [], m => m
  | c :: r, m => depCs r (mx m (depC c))
end
def depTo (ks : List Cw) (i : Nat) : Int := (ks.take i).foldl (fun m c => mx m (depC c)) 0
theorem depCs_foldl : ∀ (ks : List Cw) (m : Int), depCs ks m = ks.foldl (fun m c => mx m (depC c)) m
  | [], m => by simp [depCs]
  | c :: r, m => by rw [depCs, depCs_foldl r]; rfl
theorem dep_end {ks : List Cw} {i : Nat} (hi : ks.length ≤ i) : depTo ks i = depCs ks 0 := by
  rw [depCs_foldl]; unfold depTo; rw [List.take_of_length_le hi]
theorem dep_step {ks : List Cw} {i : Nat} (hi : i < ks.length) : depTo ks (i + 1) = mx (depTo ks i) (depC ks[i]) := by
  unfold depTo
  rw [List.take_add_one, List.getElem?_eq_getElem hi, List.foldl_append]
  rfl

def DepQ (gl : Gl) (id1 : Nat) (st : St) (n : Int) (e : AE) (fr : Fr) (st' : St) : Prop := e = AE.normal ∧ Keep st st' ∧ CmdF gl id1 fr ∧ Fr.at fr 3 = .int .i64 n

variable [Memo] [NY]

set_option maxHeartbeats 1000000 in
theorem wdep_ok (gl : Gl) (c : Cw) (hok : c.ok) : c.small → ∀ st : St,
    ∃ v st', W Try.prog (.call gl 7 [.agg c.cells]) st = .call (.val v st') ∧ v = .int .i64 (depC c) ∧ Keep st st' := by
  induction hok with
  | mk k a nm wv ws kv kids hk hw hws hkv hks ih =>
  intro hsm st
  cases hsm with
  | mk _ _ _ _ _ _ _ hn hwl hkl hwz hkz hws' hks' =>
  have hk11 : callable Try.prog 7 = true := by kernel_rfl
  have ow := hw.one
  have okv := hkv.one
  have oi : ∀ k n, oneC (.int k n) = true := fun _ _ => rfl
  have os : ∀ s, oneC (.str s) = true := fun _ => rfl
  have lx := hw.len Try.underlying22
  have lk := hkv.len Try.underlying23
  refine call_ex (NY.no _ rfl rfl _ _) Try.func7 rfl (by kernel_rfl) ?_
  repeat refine Does.seq ?_
  refine Does.region ?_
  simp [valloc, V.cells, Cw.cells, ow, oi, os, okv, mkRef]
  have hk1 := newCmd_keep st k a nm wv kv
  have b1 := newCmd_box st k a nm wv kv
  have hct := newCmd_ctr st k a nm wv kv
  rw [show ({ ctr := st.ctr + 1, box := st.box.put st.ctr (.cells [.int .u8 (k : Int), .int .i64 a, .str nm, wv, kv] 25 true (some 0)) } : St) = newCmd st k a nm wv kv from rfl]
  revert hk1 b1 hct
  generalize newCmd st k a nm wv kv = st1
  generalize hid1 : st.ctr = id1
  intro hk1 b1 hct
  have l4 := vload_of (P := Try.prog) (off := 4) sa23 sz23 b1 rfl
  have f0 := cg0 id1
  have f2 := cg2 id1
  have f3 := cg3 id1
  have f4 := cg4 id1
  rw [show depC (.mk k a nm wv ws kv kids) = IntKind.i64.wrap (depCs kids 0 + 1) from rfl]
  repeat refine Does.seq ?_
  refine Does.region ?_
  simp
  repeat refine Does.seq ?_
  refine Does.region ?_
  simp [f4, l4, lk]
  refine Does.mono (Q := DepQ gl id1 st1 (depCs kids 0)) ?loop ?tail
  case loop => as_aux_lemma =>
    refine Does.block (Does.up kids.length (fun i fr st' => Keep st1 st' ∧ CmdF gl id1 fr ∧ Fr.at fr 3 = .int .i64 (depTo kids i) ∧ Fr.at fr 7 = kv ∧ Fr.at fr 8 = .int .i64 (kids.length : Int) ∧ Fr.at fr 9 = .int .i64 (i : Int) ∧ i ≤ kids.length) 0 ?init ?bound ?step)
    case init => exact ⟨.refl st1, ⟨by simp, by simp, by simp⟩, by simp [depTo], by simp, by simp, by simp, Nat.zero_le _⟩
    case bound => exact fun i fr st' h => h.2.2.2.2.2.2
    case step =>
      rintro i fr st' ⟨hk, ⟨hds, hg, h1⟩, h3, h7, h8, h9, hi⟩
      have elen : ∀ kk, vbin Try.prog kk .lss 3 (.int .i64 (i : Int)) (.int .i64 (kids.length : Int)) = some (.bool (decide (i < kids.length))) := fun kk => vI_lss rfl
      repeat refine Does.seq ?_
      refine Does.region ?_
      by_cases hlt : i < kids.length
      rotate_left
      · rw [decide_eq_false hlt] at elen
        simp [h8, h9, elen]
        repeat refine Does.seq ?_
        refine Does.condF (by simp) ?_
        refine Does.exit ?_
        simp only [inBlock, if_true, andThen]
        exact ⟨rfl, hk, ⟨by simp [hds], by simp [hg], by simp [h1]⟩, by rw [← dep_end (i := i) (by omega)]; simp [h3]⟩
      · rw [decide_eq_true hlt] at elen
        obtain ⟨r, g1⟩ := hkv.get (z := 5) (fun c _ => c.len5) Try.underlying23 z25 hlt
        have i1 := g1 .i64
        have hm := List.getElem_mem hlt
        have hld := load25 kids[i] r st'
        have hpk := putCmd_keep st' kids[i]
        have hpb := putCmd_box st' kids[i]
        have hps := putCmd_store st' (hks _ hm)
        have hl2 := vload25 hpb
        obtain ⟨v, st2, hc, rfl, hk2⟩ := ih _ hm (hks' _ hm) (putCmd st' kids[i])
        have hc := ihCall_W hc
        have hstep := dep_step hlt
        generalize putCmd st' kids[i] = st3 at hpk hps hl2 hc hk2
        clear hpb
        generalize depC kids[i] = dc at hc hstep
        have hmx := vmax (depTo kids i) dc
        generalize kids[i].cells = cs at hld hc i1 hps hl2
        have w1 : IntKind.i64.wrap ((i : Int) + 1) = (i : Int) + 1 := wrap_i64 (by omega) (by omega)
        simp [h8, h9, elen]
        repeat refine Does.seq ?_
        refine Does.condT (by simp) ?_
        refine Does.skip ?_
        simp
        repeat refine Does.seq ?_
        refine Does.block ?_
        repeat refine Does.seq ?_
        refine Does.region ?_
        simp [h7, h9, i1, hld, valloc, zs25, V.cells, oneC, mkRef, vact, hps]
        repeat refine Does.seq ?_
        refine Does.region ?_
        simp [h3, hl2, hg, vcall_callable hk11, hc, hmx]
        repeat refine Does.seq ?_
        refine Does.region ?_
        simp [h9, vbin_add, w1]
        exact ⟨i + 1, by omega, (hk.trans hpk).trans hk2, ⟨by simp [hds], by simp [hg], by simp [h1]⟩, by simp [hstep], by simp [h7], by simp [h8], by simp, by omega⟩
  case tail => as_aux_lemma =>
    rintro e fr st2 ⟨rfl, hk, ⟨hds, hg, h1⟩, h3⟩
    simp only [andThen]
    repeat refine Does.seq ?_
    refine Does.region ?_
    simp [h3, vbin_add]
    refine Does.ret ?_
    simp [hds]
    exact hk1.trans hk

set_option maxHeartbeats 1000000 in
theorem rdep_ok (gl : Gl) (c : Cw) (hok : c.ok) : c.small → ∀ st : St,
    ∃ v st', W Try.prog (.call gl 8 [.agg c.cells]) st = .call (.val v st') ∧ v = .int .i64 (depC c) ∧ Keep st st' := by
  induction hok with
  | mk k a nm wv ws kv kids hk hw hws hkv hks ih =>
  intro hsm st
  cases hsm with
  | mk _ _ _ _ _ _ _ hn hwl hkl hwz hkz hws' hks' =>
  have hk11 : callable Try.prog 8 = true := by kernel_rfl
  have ow := hw.one
  have okv := hkv.one
  have oi : ∀ k n, oneC (.int k n) = true := fun _ _ => rfl
  have os : ∀ s, oneC (.str s) = true := fun _ => rfl
  have lx := hw.len Try.underlying22
  have lk := hkv.len Try.underlying23
  refine call_ex (NY.no _ rfl rfl _ _) Try.func8 rfl (by kernel_rfl) ?_
  repeat refine Does.seq ?_
  refine Does.region ?_
  simp [valloc, V.cells, Cw.cells, ow, oi, os, okv, mkRef]
  have hk1 := newCmd_keep st k a nm wv kv
  have b1 := newCmd_box st k a nm wv kv
  have hct := newCmd_ctr st k a nm wv kv
  rw [show ({ ctr := st.ctr + 1, box := st.box.put st.ctr (.cells [.int .u8 (k : Int), .int .i64 a, .str nm, wv, kv] 25 true (some 0)) } : St) = newCmd st k a nm wv kv from rfl]
  revert hk1 b1 hct
  generalize newCmd st k a nm wv kv = st1
  generalize hid1 : st.ctr = id1
  intro hk1 b1 hct
  have l4 := vload_of (P := Try.prog) (off := 4) sa23 sz23 b1 rfl
  have f0 := cg0 id1
  have f2 := cg2 id1
  have f3 := cg3 id1
  have f4 := cg4 id1
  rw [show depC (.mk k a nm wv ws kv kids) = IntKind.i64.wrap (depCs kids 0 + 1) from rfl]
  repeat refine Does.seq ?_
  refine Does.region ?_
  simp
  repeat refine Does.seq ?_
  refine Does.region ?_
  simp
  refine Does.mono (Q := DepQ gl id1 st1 (depCs kids 0)) ?loop ?tail
  case loop => as_aux_lemma =>
    refine Does.block (Does.up kids.length (fun i fr st' => Keep st1 st' ∧ CmdF gl id1 fr ∧ Fr.at fr 3 = .int .i64 (depTo kids i) ∧ Fr.at fr 4 = .int .i64 (i : Int) ∧ i ≤ kids.length) 0 ?init ?bound ?step)
    case init => exact ⟨.refl st1, ⟨by simp, by simp, by simp⟩, by simp [depTo], by simp, Nat.zero_le _⟩
    case bound => exact fun i fr st' h => h.2.2.2.2
    case step =>
      rintro i fr st' ⟨hk, ⟨hds, hg, h1⟩, h3, h4, hi⟩
      have elen : ∀ kk, vbin Try.prog kk .lss 3 (.int .i64 (i : Int)) (.int .i64 (kids.length : Int)) = some (.bool (decide (i < kids.length))) := fun kk => vI_lss rfl
      have b2 : st'.box.get id1 = some (.cells [.int .u8 (k : Int), .int .i64 a, .str nm, wv, kv] 25 true (some 0)) := by rw [hk.box _ hct]; exact b1
      have m4 := vload_of (P := Try.prog) (off := 4) sa23 sz23 b2 rfl
      repeat refine Does.seq ?_
      refine Does.region ?_
      by_cases hlt : i < kids.length
      rotate_left
      · rw [decide_eq_false hlt] at elen
        simp [h1, h4, f4, m4, lk, elen]
        repeat refine Does.seq ?_
        refine Does.condF (by simp) ?_
        refine Does.exit ?_
        simp only [inBlock, if_true, andThen]
        exact ⟨rfl, hk, ⟨by simp [hds], by simp [hg], by simp [h1]⟩, by rw [← dep_end (i := i) (by omega)]; simp [h3]⟩
      · rw [decide_eq_true hlt] at elen
        obtain ⟨r, g1⟩ := hkv.get (z := 5) (fun c _ => c.len5) Try.underlying23 z25 hlt
        have i1 := g1 .i64
        have hm := List.getElem_mem hlt
        have hld := load25 kids[i] r st'
        obtain ⟨v, st2, hc, rfl, hk2⟩ := ih _ hm (hks' _ hm) st'
        have hc := ihCall_W hc
        have hstep := dep_step hlt
        generalize depC kids[i] = dc at hc hstep
        have hmx := vmax (depTo kids i) dc
        generalize kids[i].cells = cs at hld hc i1
        have w1 : IntKind.i64.wrap ((i : Int) + 1) = (i : Int) + 1 := wrap_i64 (by omega) (by omega)
        simp [h1, h4, f4, m4, lk, elen]
        repeat refine Does.seq ?_
        refine Does.condT (by simp) ?_
        refine Does.skip ?_
        simp
        repeat refine Does.seq ?_
        refine Does.block ?_
        repeat refine Does.seq ?_
        refine Does.region ?_
        simp [h1, h3, h4, f4, m4, i1, hld, hg, vcall_callable hk11, hc, hmx]
        repeat refine Does.seq ?_
        refine Does.region ?_
        simp [h4, vbin_add, w1]
        exact ⟨i + 1, by omega, hk.trans hk2, ⟨by simp [hds], by simp [hg], by simp [h1]⟩, by simp [hstep], by simp, by omega⟩
  case tail => as_aux_lemma =>
    rintro e fr st2 ⟨rfl, hk, ⟨hds, hg, h1⟩, h3⟩
    simp only [andThen]
    repeat refine Does.seq ?_
    refine Does.region ?_
    simp [h3, vbin_add]
    refine Does.ret ?_
    simp [hds]
    exact hk1.trans hk
end Go.Vm

namespace Go.Vm
open Go Go.Proofs Go.Sy
attribute [local simp] Oks xOps vwanted isDefer vop kindOf vpure ev evs toV andThen inBlock atTo_some Fr.dsTo Fr.glTo Fr.toNone initFr_at initFr_ds initFr_gl veff traverse tupled vresult V.undef evOpt xDraw xStep

/-- may a command be? -/
def mayT : Cw → Bool
  | .mk k a nm wv ws kv kids => cond (decide (k = 0)) (decide (nm.n = 0) && (decide (ws.length = 0) && decide (kids.length = 0))) (decide (depC (.mk k a nm wv ws kv kids) ≤ 24) && mayC (.mk k a nm wv ws kv kids))

variable [Memo] [NY]

set_option maxHeartbeats 1000000 in
theorem wMayC_ok (gl : Gl) {aL : List V} (hh : Hits gl aL) (c : Cw) (hok : c.ok) (hsm : c.small) (st : St) :
    ∃ v st', W Try.prog (.call gl 5 [.agg c.cells]) st = .call (.val v st') ∧ v = .bool (mayT c) ∧ Keep st st' := by
  have hdep := fun st => wdep_ok gl c hok hsm st
  have hmay := fun st => wmay_ok gl hh c hok hsm st
  cases hok with
  | mk k a nm wv ws kv kids hk hw hws hkv hks =>
  cases hsm with
  | mk _ _ _ _ _ _ _ hn hwl hkl hwz hkz hws' hks' =>
  have hkd : callable Try.prog 7 = true := by kernel_rfl
  have hkm : callable Try.prog 11 = true := by kernel_rfl
  have ow := hw.one
  have okv := hkv.one
  have oi : ∀ k n, oneC (.int k n) = true := fun _ _ => rfl
  have os : ∀ s, oneC (.str s) = true := fun _ => rfl
  have lx := hw.len Try.underlying22
  have lk := hkv.len Try.underlying23
  refine call_ex (NY.no _ rfl rfl _ _) Try.func5 rfl (by kernel_rfl) ?_
  repeat refine Does.seq ?_
  refine Does.region ?_
  simp [valloc, V.cells, Cw.cells, ow, oi, os, okv, mkRef]
  have hk1 := newCmd_keep st k a nm wv kv
  have b1 := newCmd_box st k a nm wv kv
  have hct := newCmd_ctr st k a nm wv kv
  rw [show ({ ctr := st.ctr + 1, box := st.box.put st.ctr (.cells [.int .u8 (k : Int), .int .i64 a, .str nm, wv, kv] 25 true (some 0)) } : St) = newCmd st k a nm wv kv from rfl]
  revert hk1 b1 hct
  generalize newCmd st k a nm wv kv = st1
  generalize hid1 : st.ctr = id1
  intro hk1 b1 hct
  have l0 := vload_of (P := Try.prog) (off := 0) sa5 sz5 b1 rfl
  have l2 := vload_of (P := Try.prog) (off := 2) sa9 sz9 b1 rfl
  have l3 := vload_of (P := Try.prog) (off := 3) sa22 sz22 b1 rfl
  have l4 := vload_of (P := Try.prog) (off := 4) sa23 sz23 b1 rfl
  have l25 : vload Try.prog st1 25 (.ptr id1 0) = some (.agg [.int .u8 (k : Int), .int .i64 a, .str nm, wv, kv]) := vload25 (c := .mk k a nm wv ws kv kids) b1
  have f0 := cg0 id1
  have f2 := cg2 id1
  have f3 := cg3 id1
  have f4 := cg4 id1
  have hemp := same_empty nm
  have e0 : ∀ kk, vbin Try.prog kk .eql 5 (.int .u8 (k : Int)) (.int .u8 0) = some (.bool (decide (k = 0))) := fun kk => vI_eql rfl
  obtain ⟨v, st2, hc1, rfl, hk2⟩ := hdep st1
  have hc1 := ihCall_W hc1
  have b2 : st2.box.get id1 = some (.cells [.int .u8 (k : Int), .int .i64 a, .str nm, wv, kv] 25 true (some 0)) := by rw [hk2.box _ hct]; exact b1
  have m25 : vload Try.prog st2 25 (.ptr id1 0) = some (.agg [.int .u8 (k : Int), .int .i64 a, .str nm, wv, kv]) := vload25 (c := .mk k a nm wv ws kv kids) b2
  obtain ⟨v, st3, hc2, rfl, hk3⟩ := hmay st2
  have hc2 := ihCall_W hc2
  simp only [Cw.cells] at hc1 hc2
  rw [show mayT (.mk k a nm wv ws kv kids) = (cond (decide (k = 0)) (decide (nm.n = 0) && (decide (ws.length = 0) && decide (kids.length = 0))) (decide (depC (.mk k a nm wv ws kv kids) ≤ 24) && mayC (.mk k a nm wv ws kv kids))) from rfl]
  have e24 : ∀ kk, vbin Try.prog kk .leq 3 (.int .i64 (depC (.mk k a nm wv ws kv kids))) (.int .i64 24) = some (.bool (decide (depC (.mk k a nm wv ws kv kids) ≤ 24))) := fun kk => vbin_leq
  generalize decide (depC (.mk k a nm wv ws kv kids) ≤ 24) = dd at e24 ⊢
  generalize depC (.mk k a nm wv ws kv kids) = dn at hc1 e24 ⊢
  generalize mayC (.mk k a nm wv ws kv kids) = mc at hc2 ⊢
  have ea : ∀ kk, vbin Try.prog kk .add 3 (.int .i64 (ws.length : Int)) (.int .i64 (kids.length : Int)) = some (.int .i64 ((ws.length + kids.length : Nat) : Int)) := fun kk => by
    rw [vbin_add, wrap_i64 (by omega) (by omega)]; rfl
  have es : ∀ kk, vbin Try.prog kk .eql 3 (.int .i64 ((ws.length + kids.length : Nat) : Int)) (.int .i64 0) = some (.bool (decide (ws.length = 0) && decide (kids.length = 0))) := fun kk => by
    have := vI_eql (P := Try.prog) (kk := kk) (T := 3) (q := .i64) (c := ws.length + kids.length) (m := 0) (k := 0) rfl
    rw [this]
    congr 2
    rw [Bool.eq_iff_iff]
    simp
  generalize (decide (ws.length = 0) && decide (kids.length = 0)) = EK at es ⊢
  generalize ((ws.length + kids.length : Nat) : Int) = wk at ea es ⊢
  generalize decide (nm.n = 0) = D at hemp ⊢
  generalize decide (k = 0) = K at e0 ⊢
  generalize (ws.length : Int) = wl at lx ea ⊢
  generalize (kids.length : Int) = kl at lk ea ⊢
  generalize (k : Int) = ki at l0 l25 e0 hc1 m25 hc2 b1 b2 ⊢
  clear hdep hmay
  repeat refine Does.seq ?_
  refine Does.region ?_
  cases K with
  | true =>
    simp [f0, l0, e0]
    repeat refine Does.seq ?_
    refine Does.condT (by simp) ?_
    repeat refine Does.seq ?_
    refine Does.region ?_
    cases D with
    | false =>
      simp [f2, l2, vbin_seql, hemp]
      refine Does.ret ?_
      simp
      exact hk1
    | true =>
      simp [f2, l2, vbin_seql, hemp, f3, l3, lx, f4, l4, lk, ea, es]
      refine Does.ret ?_
      simp
      exact hk1
  | false =>
    simp [f0, l0, e0]
    repeat refine Does.seq ?_
    refine Does.condF (by simp) ?_
    refine Does.skip ?_
    simp
    repeat refine Does.seq ?_
    refine Does.region ?_
    generalize V.agg [.int .u8 ki, .int .i64 a, .str nm, wv, kv] = cv at l25 m25 hc1 hc2
    cases dd with
    | false =>
      simp [l25, vcall_callable hkd, hc1, e24]
      refine Does.ret ?_
      simp
      exact hk1.trans hk2
    | true =>
      simp [l25, vcall_callable hkd, hc1, e24, m25, vcall_callable hkm, hc2]
      refine Does.ret ?_
      simp
      exact (hk1.trans hk2).trans hk3

set_option maxHeartbeats 1000000 in
theorem rMayC_ok (gl : Gl) (c : Cw) (hok : c.ok) (hsm : c.small) (st : St) :
    ∃ v st', W Try.prog (.call gl 6 [.agg c.cells]) st = .call (.val v st') ∧ v = .bool (mayT c) ∧ Keep st st' := by
  have hdep := fun st => rdep_ok gl c hok hsm st
  have hmay := fun st => rone_ok gl c hok hsm st
  cases hok with
  | mk k a nm wv ws kv kids hk hw hws hkv hks =>
  cases hsm with
  | mk _ _ _ _ _ _ _ hn hwl hkl hwz hkz hws' hks' =>
  have hkd : callable Try.prog 8 = true := by kernel_rfl
  have hkm : callable Try.prog 12 = true := by kernel_rfl
  have ow := hw.one
  have okv := hkv.one
  have oi : ∀ k n, oneC (.int k n) = true := fun _ _ => rfl
  have os : ∀ s, oneC (.str s) = true := fun _ => rfl
  have lx := hw.len Try.underlying22
  have lk := hkv.len Try.underlying23
  refine call_ex (NY.no _ rfl rfl _ _) Try.func6 rfl (by kernel_rfl) ?_
  repeat refine Does.seq ?_
  refine Does.region ?_
  simp [valloc, V.cells, Cw.cells, ow, oi, os, okv, mkRef]
  have hk1 := newCmd_keep st k a nm wv kv
  have b1 := newCmd_box st k a nm wv kv
  have hct := newCmd_ctr st k a nm wv kv
  rw [show ({ ctr := st.ctr + 1, box := st.box.put st.ctr (.cells [.int .u8 (k : Int), .int .i64 a, .str nm, wv, kv] 25 true (some 0)) } : St) = newCmd st k a nm wv kv from rfl]
  revert hk1 b1 hct
  generalize newCmd st k a nm wv kv = st1
  generalize hid1 : st.ctr = id1
  intro hk1 b1 hct
  have l0 := vload_of (P := Try.prog) (off := 0) sa5 sz5 b1 rfl
  have l2 := vload_of (P := Try.prog) (off := 2) sa9 sz9 b1 rfl
  have l3 := vload_of (P := Try.prog) (off := 3) sa22 sz22 b1 rfl
  have l4 := vload_of (P := Try.prog) (off := 4) sa23 sz23 b1 rfl
  have l25 : vload Try.prog st1 25 (.ptr id1 0) = some (.agg [.int .u8 (k : Int), .int .i64 a, .str nm, wv, kv]) := vload25 (c := .mk k a nm wv ws kv kids) b1
  have f0 := cg0 id1
  have f2 := cg2 id1
  have f3 := cg3 id1
  have f4 := cg4 id1
  have hemp := same_empty nm
  have e0 : ∀ kk, vbin Try.prog kk .eql 5 (.int .u8 (k : Int)) (.int .u8 0) = some (.bool (decide (k = 0))) := fun kk => vI_eql rfl
  obtain ⟨v, st2, hc1, rfl, hk2⟩ := hdep st1
  have hc1 := ihCall_W hc1
  have b2 : st2.box.get id1 = some (.cells [.int .u8 (k : Int), .int .i64 a, .str nm, wv, kv] 25 true (some 0)) := by rw [hk2.box _ hct]; exact b1
  have m25 : vload Try.prog st2 25 (.ptr id1 0) = some (.agg [.int .u8 (k : Int), .int .i64 a, .str nm, wv, kv]) := vload25 (c := .mk k a nm wv ws kv kids) b2
  obtain ⟨v, st3, hc2, rfl, hk3⟩ := hmay st2
  have hc2 := ihCall_W hc2
  simp only [Cw.cells] at hc1 hc2
  rw [show mayT (.mk k a nm wv ws kv kids) = (cond (decide (k = 0)) (decide (nm.n = 0) && (decide (ws.length = 0) && decide (kids.length = 0))) (decide (depC (.mk k a nm wv ws kv kids) ≤ 24) && mayC (.mk k a nm wv ws kv kids))) from rfl]
  have e24 : ∀ kk, vbin Try.prog kk .leq 3 (.int .i64 (depC (.mk k a nm wv ws kv kids))) (.int .i64 24) = some (.bool (decide (depC (.mk k a nm wv ws kv kids) ≤ 24))) := fun kk => vbin_leq
  generalize decide (depC (.mk k a nm wv ws kv kids) ≤ 24) = dd at e24 ⊢
  generalize depC (.mk k a nm wv ws kv kids) = dn at hc1 e24 ⊢
  generalize mayC (.mk k a nm wv ws kv kids) = mc at hc2 ⊢
  have ew : ∀ kk, vbin Try.prog kk .eql 3 (.int .i64 (ws.length : Int)) (.int .i64 0) = some (.bool (decide (ws.length = 0))) := fun kk => vI_eql rfl
  have ek : ∀ kk, vbin Try.prog kk .eql 3 (.int .i64 (kids.length : Int)) (.int .i64 0) = some (.bool (decide (kids.length = 0))) := fun kk => vI_eql rfl
  generalize decide (ws.length = 0) = E at ew ⊢
  generalize decide (kids.length = 0) = F at ek ⊢
  generalize decide (nm.n = 0) = D at hemp ⊢
  generalize decide (k = 0) = K at e0 ⊢
  generalize (ws.length : Int) = wl at lx ew ⊢
  generalize (kids.length : Int) = kl at lk ek ⊢
  generalize (k : Int) = ki at l0 l25 e0 hc1 m25 hc2 b1 b2 ⊢
  clear hdep hmay
  repeat refine Does.seq ?_
  refine Does.region ?_
  cases K with
  | true =>
    simp [f0, l0, e0]
    repeat refine Does.seq ?_
    refine Does.condT (by simp) ?_
    repeat refine Does.seq ?_
    refine Does.region ?_
    cases D with
    | false =>
      simp [f2, l2, vbin_seql, hemp]
      refine Does.ret ?_
      simp
      exact hk1
    | true =>
      cases E with
      | false =>
        simp [f2, l2, vbin_seql, hemp, f3, l3, lx, ew]
        refine Does.ret ?_
        simp
        exact hk1
      | true =>
        simp [f2, l2, vbin_seql, hemp, f3, l3, lx, ew, f4, l4, lk, ek]
        refine Does.ret ?_
        simp
        exact hk1
  | false =>
    simp [f0, l0, e0]
    repeat refine Does.seq ?_
    refine Does.condF (by simp) ?_
    refine Does.skip ?_
    simp
    repeat refine Does.seq ?_
    refine Does.region ?_
    generalize V.agg [.int .u8 ki, .int .i64 a, .str nm, wv, kv] = cv at l25 m25 hc1 hc2
    cases dd with
    | false =>
      simp [l25, vcall_callable hkd, hc1, e24]
      refine Does.ret ?_
      simp
      exact hk1.trans hk2
    | true =>
      simp [l25, vcall_callable hkd, hc1, e24, m25, vcall_callable hkm, hc2]
      refine Does.ret ?_
      simp
      exact (hk1.trans hk2).trans hk3

end Go.Vm
