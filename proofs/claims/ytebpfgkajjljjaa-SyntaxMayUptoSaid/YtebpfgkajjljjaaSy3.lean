/- Words that may be, by the document's code. Parts put behind parts. The word of an assignment. -/
import Derived.Test.YtebpfgkajjljjaaSy2
namespace Go.Vm
open Go Go.Proofs Go.Sy
attribute [local simp] Oks xOps vwanted isDefer vop kindOf vpure ev evs toV andThen inBlock atTo_some Fr.dsTo Fr.glTo Fr.toNone initFr_at initFr_ds initFr_gl veff traverse tupled vresult V.undef evOpt xDraw xStep

theorem chkR_at {ks : List Pk} {i : Nat} {p : Pk} (h : ks[i]? = some p) : chkR (prevO ks i) (ks.drop i) = (refOne p (prevO ks i) ks[i + 1]? && chkR (prevO ks (i + 1)) (ks.drop (i + 1))) := by
  have hi : i < ks.length := (List.getElem?_eq_some_iff.1 h).1
  have hd : ks.drop i = p :: ks.drop (i + 1) := by
    rw [List.drop_eq_getElem_cons hi]
    rw [List.getElem?_eq_getElem hi] at h
    rw [Option.some.inj h]
  rw [hd, chkR, show prevO ks (i + 1) = some p from h]
  congr 2
  rw [← List.head?_drop]
theorem prev_none (ks : List Pk) {i : Nat} (hi : i ≤ ks.length) : (prevO ks i).isNone = decide (i = 0) := by
  cases i with
  | zero => rfl
  | succ i =>
    have : i < ks.length := by omega
    simp [prevO, this]

/-- the frame in the walk over the parts -/
def FI (gl : Gl) (id1 i : Nat) (fr : Fr) : Prop := fr.ds = [] ∧ fr.gl = gl ∧ Fr.at fr 1 = .ptr id1 0 ∧ Fr.at fr 3 = .int .i64 (i : Int)
def FJ (gl : Gl) (id1 id4 i : Nat) (fr : Fr) : Prop := FI gl id1 i fr ∧ Fr.at fr 4 = .ptr id4 0
/-- how the loop ends -/
def DocQ (st1 : St) (C : Bool) (e : AE) (fr' : Fr) (st' : St) : Prop := Keep st1 st' ∧ fr'.ds = [] ∧ ((e = AE.ret ∧ Fr.at fr' 2 = .bool false ∧ C = false) ∨ (e = AE.normal ∧ C = true))
/-- how a turn ends -/
def DocB (gl : Gl) (id1 i : Nat) (st2 : St) (ok : Bool) (e : AE) (fr' : Fr) (st' : St) : Prop := (e = AE.ret ∧ ok = false ∧ fr'.ds = [] ∧ Fr.at fr' 2 = .bool false ∧ Keep st2 st') ∨ (e = AE.normal ∧ ok = true ∧ FI gl id1 i fr' ∧ Keep st2 st')
/-- a check's region -/
def DocF (gl : Gl) (id1 id4 i k : Nat) (b : Bool) (st : St) (e : AE) (fr' : Fr) (st' : St) : Prop := e = AE.normal ∧ FJ gl id1 id4 i fr' ∧ Fr.at fr' k = .bool b ∧ Keep st st'
def GoodTo (q : Bool) (l : List UInt8) (n : Nat) (ok : Bool) : Prop := (l.take n).all (fun c => !Go.Sy.badC q c) = ok
/-- how the walk over the bytes ends -/
def DocG (gl : Gl) (id1 id4 i : Nat) (ok : Bool) (st : St) (e : AE) (fr' : Fr) (st' : St) : Prop := AtSt st st' ∧ ((e = AE.ret ∧ ok = false ∧ fr'.ds = [] ∧ Fr.at fr' 2 = .bool false) ∨ (e = AE.normal ∧ ok = true ∧ FJ gl id1 id4 i fr'))

theorem good_zero (q : Bool) (l : List UInt8) : GoodTo q l 0 true := rfl
theorem good_all {q : Bool} {l : List UInt8} {n : Nat} {b : Bool} (h : GoodTo q l n b) (hn : l.length ≤ n) : l.all (fun c => !Go.Sy.badC q c) = b := by
  unfold GoodTo at h; rwa [List.take_of_length_le hn] at h
theorem good_step {q : Bool} {s : S} {n : Nat} (h : GoodTo q s.toList n true) (hn : n < s.n) (hb : Go.Sy.badC q (UInt8.ofNat (s.at n)) = false) : GoodTo q s.toList (n + 1) true := by
  unfold GoodTo at h ⊢
  rw [all_take hn, h, hb]; rfl
theorem good_not {q : Bool} {s : S} {n : Nat} (hn : n < s.n) (hb : Go.Sy.badC q (UInt8.ofNat (s.at n)) = true) : s.toList.all (fun c => !Go.Sy.badC q c) = false :=
  all_not hn (by rw [hb]; rfl)

/-- the parts of the check -/
theorem ref1 {ex : Wp} {pv nx : Option Pk} (hv : ex.v = true) : refOne ex.key pv nx = paramL ex.t.toList := by
  unfold refOne; rw [if_pos (show ex.key.1 = true from hv)]; rfl
theorem ref2 {ex : Wp} {pv nx : Option Pk} (hv : ex.v = false) (h : (!ex.q && ex.t.toList.isEmpty) = true) : refOne ex.key pv nx = false := by
  unfold refOne; rw [if_neg (by rw [show ex.key.1 = ex.v from rfl, hv]; decide)]
  unfold refPart
  rw [show ex.key.2.2 = ex.q from rfl, show ex.key.2.1 = ex.t.toList from rfl]
  cases hq : ex.q <;> simp_all
theorem ref3 {ex : Wp} {pv nx : Option Pk} (hv : ex.v = false) (h : ex.t.toList.all (fun c => !Go.Sy.badC ex.q c) = false) : refOne ex.key pv nx = false := by
  unfold refOne; rw [if_neg (by rw [show ex.key.1 = ex.v from rfl, hv]; decide)]
  unfold refPart
  rw [show ex.key.2.2 = ex.q from rfl, show ex.key.2.1 = ex.t.toList from rfl, h]
  simp
theorem ref4 {ex : Wp} {pv nx : Option Pk} (hv : ex.v = false) (h : (!ex.q && ex.t.toList.isEmpty) = false) (h2 : ex.t.toList.all (fun c => !Go.Sy.badC ex.q c) = true) :
    refOne ex.key pv nx = (!(pv.isNone && !ex.q && (ex.t.toList.head? == some 35 || ex.t.toList.head? == some 126)) && !nearO pv ex.key && !(ex.q && ex.t.toList.isEmpty && (quotO pv || quotO nx))) := by
  unfold refOne; rw [if_neg (by rw [show ex.key.1 = ex.v from rfl, hv]; decide)]
  unfold refPart
  rw [show ex.key.2.2 = ex.q from rfl, show ex.key.2.1 = ex.t.toList from rfl, h2]
  have : (ex.q || !ex.t.toList.isEmpty) = true := by
    revert h; cases ex.q <;> cases ex.t.toList.isEmpty <;> simp
  rw [this]
  simp only [Bool.true_and]

theorem bad_nat (q : Bool) (c : Nat) (hc : c < 256) : Go.Sy.badC q (UInt8.ofNat c) = (decide (c = 0) || (!q && (sp18.elem (UInt8.ofNat c) || decide (c = 96)))) := by
  unfold Go.Sy.badC
  have h0 : (UInt8.ofNat c == 0) = decide (c = 0) := by
    rw [Bool.eq_iff_iff, beq_iff_eq, decide_eq_true_iff]
    exact byte_eq (b := 0) hc (by decide)
  have h1 : (UInt8.ofNat c == 96) = decide (c = 96) := by
    rw [Bool.eq_iff_iff, beq_iff_eq, decide_eq_true_iff]
    exact byte_eq (b := 96) hc (by decide)
  rw [h0, h1]
theorem head_at {s : S} (h : 0 < s.n) (b : Nat) (hb : b < 256) : (s.toList.head? == some (UInt8.ofNat b)) = decide (s.at 0 = b) := by
  have := S.drop_at s h
  rw [List.drop_zero] at this
  rw [this, List.head?_cons, Bool.eq_iff_iff, beq_iff_eq, decide_eq_true_iff, Option.some_inj]
  exact byte_eq (s.at_lt 0) hb
theorem isEmpty_n (s : S) : s.toList.isEmpty = decide (s.n = 0) := by
  rw [Bool.eq_iff_iff, List.isEmpty_iff, decide_eq_true_iff, ← List.length_eq_zero_iff, S.len]
theorem sp18S : (S.ofList sp18).toList = sp18 := S.toList_ofList _

variable [Memo] [NY]


set_option maxHeartbeats 4000000 in
theorem rMay_ok (gl : Gl) (st : St) (w : V) (l : List Wp) (hx : Wv st w l) (hl : l.length < 1000000) (hs : ∀ p ∈ l, p.t.n < 4000000000000000000) :
    ∃ v st', W Try.prog (.call gl 35 [w]) st = .call (.val v st') ∧ v = .bool (mayW (l.map Wp.key)) ∧ Keep st st' := by
  obtain ⟨x, a, rfl, hx⟩ := hx
  have hk36 : callable Try.prog 36 = true := by kernel_rfl
  have hk47 : callable Try.prog 47 = true := by kernel_rfl
  have ox := hx.one
  have oi : ∀ k n, oneC (.int k n) = true := fun _ _ => rfl
  have lx := hx.len
  have z33' := zs33
  refine call_ex (NY.no _ rfl rfl _ _) Try.func35 rfl (by kernel_rfl) ?_
  repeat refine Does.seq ?_
  refine Does.region ?_
  simp [valloc, V.cells, ox, oi, mkRef]
  have hk1 := newWord_keep st x a
  have b1 := newWord_box st x a
  have hct := newWord_ctr st x a
  rw [show ({ ctr := st.ctr + 1, box := st.box.put st.ctr (.cells [x, .int .i64 a] 31 true (some 0)) } : St) = newWord st x a from rfl]
  revert hk1 b1 hct
  generalize newWord st x a = st1
  generalize hid1 : st.ctr = id1
  intro hk1 b1 hct
  have f1 := wf0 id1
  have hx1 := hx.keep hk1
  have hks : (l.map Wp.key).length = l.length := by simp
  have hkey : ∀ i, i < l.length → (l.map Wp.key)[i]? = some (l.getD i default).key := fun i hi => key_get l hi
  have l1 := vload_of (P := Try.prog) (off := 0) sa29 sz29 b1 rfl
  rw [mayW_eq]
  have hD : (l.map Wp.key).isEmpty = decide (l.length = 0) := by cases l <;> simp
  rw [hD]
  generalize hK : l.map Wp.key = ks at hks hkey
  have e0 : ∀ kk, vbin Try.prog kk .eql 3 (.int .i64 (l.length : Int)) (.int .i64 0) = some (.bool (decide (l.length = 0))) := fun kk => vI_eql rfl
  generalize hD2 : decide (l.length = 0) = D at e0
  generalize hC : chkR none ks = C
  repeat refine Does.seq ?_
  refine Does.region ?_
  simp [f1, l1, lx, e0]
  repeat refine Does.seq ?_
  cases D with
  | true =>
    refine Does.condT (by simp) ?_
    repeat refine Does.seq ?_
    refine Does.region ?_
    simp
    refine Does.ret ?_
    simp [hk1]
  | false =>
  refine Does.condF (by simp) ?_
  refine Does.skip ?_
  simp
  repeat refine Does.seq ?_
  refine Does.region ?_
  simp
  repeat refine Does.seq ?_
  refine Does.mono (Q := DocQ st1 C) ?loop ?tail
  case tail => as_aux_lemma =>
    rintro e fr' st' ⟨hk, hds, ⟨rfl, h2, hc⟩ | ⟨rfl, hc⟩⟩
    · simp only [andThen]
      simp [hds, h2, hc, hk1.trans hk]
    · simp only [andThen]
      repeat refine Does.seq ?_
      refine Does.region ?_
      simp
      refine Does.ret ?_
      simp [hds, hc, hk1.trans hk]
  case loop => as_aux_lemma =>
    refine Does.block (Does.up l.length (fun i fr st' => Keep st1 st' ∧ FI gl id1 i fr ∧ i ≤ l.length ∧ chkR (prevO ks i) (ks.drop i) = C) 0 ?init ?bound ?step)
    case init => exact ⟨.refl st1, ⟨by simp, by simp, by simp, by simp⟩, Nat.zero_le _, hC⟩
    case bound => exact fun i fr st' h => h.2.2.1
    case step =>
      rintro i fr st' ⟨hk, ⟨hds, hg, h1, h3⟩, hi, hchk⟩
      have elen : ∀ kk, vbin Try.prog kk .lss 3 (.int .i64 (i : Int)) (.int .i64 (l.length : Int)) = some (.bool (decide (i < l.length))) := fun kk => vI_lss rfl
      have l1' := vload_of (P := Try.prog) (off := 0) sa29 sz29 (show st'.box.get id1 = _ by rw [hk.box _ hct]; exact b1) rfl
      repeat refine Does.seq ?_
      refine Does.region ?_
      by_cases hlt : i < l.length
      rotate_left
      · rw [decide_eq_false hlt] at elen
        simp [h1, h3, f1, l1', lx, elen]
        repeat refine Does.seq ?_
        refine Does.condF (by simp) ?_
        refine Does.exit ?_
        simp only [inBlock, if_true, andThen]
        rw [List.drop_eq_nil_of_le (by omega)] at hchk
        simp only [chkR] at hchk
        exact ⟨hk, by simp [hds], .inr ⟨rfl, hchk.symm⟩⟩
      · rw [decide_eq_true hlt] at elen
        obtain ⟨p, g1, g2⟩ := (hx1.keep hk).get hlt
        have gk := hkey i hlt
        have hsz : (l.getD i default).t.n < 4000000000000000000 := hs _ (by rw [List.getD_eq_getElem?_getD, List.getElem?_eq_getElem hlt]; exact List.getElem_mem hlt)
        generalize l.getD i default = ex at g2 gk hsz
        have n1 := g2.loads.1
        have i1 := g1 .i64
        simp only [Wp.cells] at n1
        have hns := newPart_store st' ex
        rw [chkR_at gk] at hchk
        have w1 : IntKind.i64.wrap ((i : Int) + 1) = (i : Int) + 1 := wrap_i64 (by omega) (by omega)
        have hpn := prev_none ks (i := i) (by omega)
        simp [h1, h3, f1, l1', lx, elen]
        repeat refine Does.seq ?_
        refine Does.condT (by simp) ?_
        refine Does.skip ?_
        simp
        repeat refine Does.seq ?_
        refine Does.mono (Q := DocB gl id1 i st' (refOne ex.key (prevO ks i) ks[i + 1]?)) ?turn ?next
        case next => as_aux_lemma =>
          clear hds hg h1 h3
          rintro e fr' st2 (⟨rfl, ho, hds, h2, hk2⟩ | ⟨rfl, ho, ⟨hds, hg, h1, h3⟩, hk2⟩)
          · simp only [andThen, inBlock]
            rw [ho, Bool.false_and] at hchk
            exact ⟨hk.trans hk2, hds, .inl ⟨rfl, h2, hchk.symm⟩⟩
          · simp only [andThen, inBlock]
            rw [ho, Bool.true_and] at hchk
            refine Does.region ?_
            simp [h3, vbin_add, w1]
            exact ⟨i + 1, by omega, hk.trans hk2, ⟨by simp [hds], by simp [hg], by simp [h1], by simp⟩, by omega, hchk⟩
        case turn => as_aux_lemma =>
          refine Does.block ?_
          repeat refine Does.seq ?_
          refine Does.region ?_
          simp [h1, h3, f1, l1', i1, n1, valloc, z33', V.cells, oneC, mkRef, vact, hns]
          have nk := newPart_keep st' ex
          have nb := newPart_box st' ex
          have nc := newPart_ctr st' ex
          revert nk nb nc
          generalize newPart st' ex = st2
          generalize hid4 : st'.ctr = id4
          intro nk nb nc
          have hk2 : Keep st1 st2 := hk.trans nk
          have l2 := vload_of (P := Try.prog) (off := 0) sa29 sz29 (show st2.box.get id1 = _ by rw [hk2.box _ hct]; exact b1) rfl
          have hx2 := hx1.keep hk2
          obtain ⟨pl0, pl1, pl2⟩ := partLoads nb
          have t0 := pg0 id4 0
          have t1 := pg1 id4 0
          have t2 := pg2 id4 0
          simp only [Nat.zero_add] at t1 t2
          repeat refine Does.seq ?_
          refine Does.region ?_
          simp [t0, pl0]
          repeat refine Does.seq ?_
          cases hv : ex.v with
          | true =>
            have hpo := ref1 (pv := prevO ks i) (nx := ks[i + 1]?) hv
            have hc := ihCall_W (rParam gl st2 ex.t hsz)
            generalize paramL ex.t.toList = pm at hc hpo
            refine Does.condT (by simp) ?_
            repeat refine Does.seq ?_
            refine Does.region ?_
            simp [t1, pl1, hg, vcall_callable hk36, hc]
            repeat refine Does.seq ?_
            cases pm with
            | false =>
              refine Does.condT (by simp) ?_
              repeat refine Does.seq ?_
              refine Does.region ?_
              simp
              refine Does.ret ?_
              simp only [andThen, inBlock]
              exact .inl ⟨rfl, hpo, by simp [hds], by simp, nk⟩
            | true =>
              refine Does.condF (by simp) ?_
              refine Does.skip ?_
              simp
              refine Does.exit ?_
              simp only [andThen, inBlock, if_true]
              exact .inr ⟨rfl, hpo, ⟨by simp [hds], by simp [hg], by simp [h1], by simp [h3]⟩, nk⟩
          | false =>
            refine Does.condF (by simp) ?_
            refine Does.skip ?_
            simp
            have ete := str_empty ex.t
            repeat refine Does.seq ?_
            refine Does.mono (Q := DocF gl id1 id4 i 36 (!ex.q && ex.t.toList.isEmpty) st2) ?r10 ?t10
            case r10 => as_aux_lemma =>
              refine Does.region ?_
              generalize ex.t.toList.isEmpty = te at ete
              cases hq : ex.q <;> rw [hq] at pl2 <;> simp [t1, t2, pl1, pl2, vbin_seql, ete] <;>
                exact ⟨rfl, ⟨⟨by simp [hds], by simp [hg], by simp [h1], by simp [h3]⟩, by simp⟩, by simp, .refl _⟩
            case t10 => as_aux_lemma =>
            clear hds hg h1 h3
            rintro e fr st3 ⟨rfl, ⟨⟨hds, hg, h1, h3⟩, h4⟩, h36, hk3⟩
            have hkk : Keep st1 st3 := hk2.trans hk3
            simp only [andThen]
            repeat refine Does.seq ?_
            cases hne : (!ex.q && ex.t.toList.isEmpty) with
            | true =>
              rw [hne] at h36
              refine Does.condT (by simp [h36]) ?_
              repeat refine Does.seq ?_
              refine Does.region ?_
              simp
              refine Does.ret ?_
              simp only [andThen, inBlock]
              exact .inl ⟨rfl, ref2 hv hne, by simp [hds], by simp, nk.trans hk3⟩
            | false =>
            rw [hne] at h36
            refine Does.condF (by simp [h36]) ?_
            refine Does.skip ?_
            simp
            repeat refine Does.seq ?_
            refine Does.region ?_
            simp
            repeat refine Does.seq ?_
            have nb3 : st3.box.get id4 = some (.cells [.bool ex.v, .str ex.t, .bool ex.q] 33 true (some 0)) := by rw [hk3.box _ nc]; exact nb
            clear pl0 pl1 pl2
            obtain ⟨pl0, pl1, pl2⟩ := partLoads nb3
            refine Does.mono (Q := DocG gl id1 id4 i (ex.t.toList.all (fun c => !Go.Sy.badC ex.q c)) st3) ?bytes ?tb
            case bytes => as_aux_lemma =>
              generalize hA : ex.t.toList.all (fun c => !Go.Sy.badC ex.q c) = A
              have hszn := hsz
              refine Does.block (Does.up ex.t.n (fun j fr st' => AtSt st3 st' ∧ FJ gl id1 id4 i fr ∧ Fr.at fr 5 = .int .i64 (j : Int) ∧ j ≤ ex.t.n ∧ GoodTo ex.q ex.t.toList j true) 0 ?init ?bound ?step)
              case init => exact ⟨rfl, ⟨⟨by simp [hds], by simp [hg], by simp [h1], by simp [h3]⟩, by simp [h4]⟩, by simp, Nat.zero_le _, good_zero _ _⟩
              case bound => exact fun i fr st' h => h.2.2.2.1
              case step => as_aux_lemma =>
                clear hds hg h1 h3 h4 h36
                rintro j fr st' ⟨hst', ⟨⟨hds, hg, h1, h3⟩, h4⟩, h5, hj, hgood⟩
                rw [show st' = st3 from hst']
                clear hst'
                have elen : ∀ kk, vbin Try.prog kk .lss 3 (.int .i64 (j : Int)) (.int .i64 (ex.t.n : Int)) = some (.bool (decide (j < ex.t.n))) := fun kk => vI_lss rfl
                have vlen9 : vlen Try.prog 9 (.str ex.t) = some (.int .i64 ((ex.t.n : Nat) : Int)) := vlen_str rfl
                repeat refine Does.seq ?_
                refine Does.region ?_
                by_cases hjl : j < ex.t.n
                rotate_left
                · rw [decide_eq_false hjl] at elen
                  simp [h4, h5, t1, pl1, vlen9, elen]
                  repeat refine Does.seq ?_
                  refine Does.condF (by simp) ?_
                  refine Does.exit ?_
                  simp only [inBlock, if_true, andThen]
                  have := good_all hgood (by simp; omega)
                  rw [hA] at this
                  exact ⟨rfl, .inr ⟨rfl, this, ⟨by simp [hds], by simp [hg], by simp [h1], by simp [h3]⟩, by simp [h4]⟩⟩
                · rw [decide_eq_true hjl] at elen
                  have hgs := fun h => good_step hgood hjl h
                  have hgn := fun h => good_not (q := ex.q) hjl h
                  rw [hA] at hgn
                  have hat := ex.t.at_lt j
                  rw [bad_nat _ _ hat] at hgs hgn
                  have hci := ihCall_W (in_ok gl st3 (ex.t.at j) hat (S.ofList sp18) (by decide))
                  rw [sp18S, show S.ofList sp18 = S.ofList [32, 9, 10, 39, 34, 92, 36, 59, 38, 124, 60, 62, 40, 41, 42, 63, 91] from rfl] at hci
                  have vi9 : ∀ k, vindex Try.prog 9 (.str ex.t) (.int k (j : Int)) = some (.int .u8 ((ex.t.at j : Nat) : Int)) := fun k => vindex_str rfl hjl
                  generalize ex.t.at j = c at hgs hgn hat hci vi9
                  have ec0 : ∀ kk, vbin Try.prog kk .eql 5 (.int .u8 (c : Int)) (.int .u8 0) = some (.bool (decide (c = 0))) := fun kk => vI_eql rfl
                  have ec1 : ∀ kk, vbin Try.prog kk .eql 5 (.int .u8 (c : Int)) (.int .u8 96) = some (.bool (decide (c = 96))) := fun kk => vI_eql rfl
                  have w2 : IntKind.i64.wrap ((j : Int) + 1) = (j : Int) + 1 := wrap_i64 (by omega) (by omega)
                  generalize sp18.elem (UInt8.ofNat c) = inn at hgs hgn hci
                  generalize decide (c = 0) = c0 at hgs hgn ec0
                  generalize decide (c = 96) = c1 at hgs hgn ec1
                  generalize ex.q = qq at hgs hgn pl2
                  simp [h4, h5, t1, pl1, vlen9, elen]
                  repeat refine Does.seq ?_
                  refine Does.condT (by simp) ?_
                  refine Does.skip ?_
                  simp
                  repeat refine Does.seq ?_
                  refine Does.block ?_
                  repeat refine Does.seq ?_
                  refine Does.region ?_
                  simp [h4, h5, t1, pl1, vi9]
                  repeat refine Does.seq ?_
                  refine Does.mono (Q := fun e fr st' => AtSt st3 st' ∧ e = AE.normal ∧ FJ gl id1 id4 i fr ∧ Fr.at fr 5 = .int .i64 (j : Int) ∧ Fr.at fr 62 = .bool (c0 || (!qq && (inn || c1)))) ?cmp ?rest
                  case cmp => as_aux_lemma =>
                    refine Does.region ?_
                    refine Oks.cont (Q := fun fr st' => AtSt st3 st' ∧ FJ gl id1 id4 i fr ∧ Fr.at fr 5 = .int .i64 (j : Int) ∧ Fr.at fr 6 = .int .u8 (c : Int) ∧ Fr.at fr 62 = .bool (c0 || (!qq && (inn || c1)))) ?_ ?_
                    · cases c0 with
                      | true => simp [h4, h5, ec0]; exact ⟨rfl, ⟨⟨by simp [hds], by simp [hg], by simp [h1], by simp [h3]⟩, by simp [h4]⟩⟩
                      | false =>
                        cases qq with
                        | true => simp [h4, h5, ec0, t2, pl2]; exact ⟨rfl, ⟨⟨by simp [hds], by simp [hg], by simp [h1], by simp [h3]⟩, by simp [h4]⟩⟩
                        | false =>
                          have hkc : ∀ (a : List V), vcall Try.prog (ihCall (W Try.prog)) gl 47 a st3 = ihCall (W Try.prog) gl (.f 47) a st3 := fun a => vcall_callable hk47
                          cases inn with
                          | true => simp [h4, h5, ec0, t2, pl2, hg, hkc, hci]; exact ⟨rfl, ⟨⟨by simp [hds], by simp [hg], by simp [h1], by simp [h3]⟩, by simp [h4]⟩⟩
                          | false => simp [h4, h5, ec0, t2, pl2, hg, hkc, hci, ec1]; exact ⟨rfl, ⟨⟨by simp [hds], by simp [hg], by simp [h1], by simp [h3]⟩, by simp [h4]⟩⟩
                    · intro fr st' h
                      exact ⟨h.1, rfl, h.2.1, h.2.2.1, h.2.2.2.2⟩
                  case rest => as_aux_lemma =>
                    clear hds hg h1 h3 h4 h5
                    rintro e fr st' ⟨hst', rfl, ⟨⟨hds, hg, h1, h3⟩, h4⟩, h5, h62⟩
                    rw [show st' = st3 from hst']
                    simp only [andThen]
                    repeat refine Does.seq ?_
                    generalize (c0 || (!qq && (inn || c1))) = bb at h62 hgs hgn
                    cases bb with
                    | true =>
                      refine Does.condT (by simp [h62]) ?_
                      repeat refine Does.seq ?_
                      refine Does.region ?_
                      simp
                      refine Does.ret ?_
                      simp only [andThen, inBlock]
                      exact ⟨rfl, .inl ⟨rfl, hgn rfl, by simp [hds], by simp⟩⟩
                    | false =>
                      refine Does.condF (by simp [h62]) ?_
                      refine Does.skip ?_
                      simp only [andThen, inBlock]
                      refine Does.region ?_
                      simp [h5, vbin_add, w2]
                      exact ⟨j + 1, by omega, rfl, ⟨⟨by simp [hds], by simp [hg], by simp [h1], by simp [h3]⟩, by simp [h4]⟩, by simp, by omega, hgs rfl⟩
            case tb => as_aux_lemma =>
            clear hds hg h1 h3 h4 h36
            rintro e fr st4 ⟨hst4, ⟨rfl, ho, hds, h2⟩ | ⟨rfl, ho, ⟨⟨hds, hg, h1, h3⟩, h4⟩⟩⟩
            · simp only [andThen, inBlock]
              rw [show st4 = st3 from hst4]
              exact .inl ⟨rfl, ref3 hv ho, hds, h2, nk.trans hk3⟩
            · simp only [andThen]
              rw [show st4 = st3 from hst4]
              clear hst4
              rw [ref4 hv hne ho, hpn]
              have hD18 : (decide (i = 0) && !ex.q && (ex.t.toList.head? == some 35 || ex.t.toList.head? == some 126)) = (decide (i = 0) && !ex.q && (decide (ex.t.at 0 = 35) || decide (ex.t.at 0 = 126))) := by
                cases hq : ex.q with
                | true => simp
                | false =>
                  rw [hq, isEmpty_n] at hne
                  have hp : 0 < ex.t.n := by
                    have : ¬ ex.t.n = 0 := by simpa using hne
                    omega
                  rw [← head_at hp 35 (by omega), ← head_at hp 126 (by omega)]
                  rfl
              have hpos : ex.q = false → 0 < ex.t.n := fun hq => by
                rw [hq, isEmpty_n] at hne
                have : ¬ ex.t.n = 0 := by simpa using hne
                omega
              rw [hD18]
              repeat refine Does.seq ?_
              refine Does.mono (Q := DocF gl id1 id4 i 81 (decide (i = 0) && !ex.q && (decide (ex.t.at 0 = 35) || decide (ex.t.at 0 = 126))) st3) ?r18 ?t18
              case r18 => as_aux_lemma =>
                refine Does.region ?_
                have ei : ∀ kk, vbin Try.prog kk .eql 3 (.int .i64 (i : Int)) (.int .i64 0) = some (.bool (decide (i = 0))) := fun kk => vI_eql rfl
                have vi9 : 0 < ex.t.n → ∀ k, vindex Try.prog 9 (.str ex.t) (.int k 0) = some (.int .u8 ((ex.t.at 0 : Nat) : Int)) := fun h k => vindex_str (i := 0) rfl h
                generalize ex.t.at 0 = c at vi9
                have ec0 : ∀ kk, vbin Try.prog kk .eql 5 (.int .u8 (c : Int)) (.int .u8 35) = some (.bool (decide (c = 35))) := fun kk => vI_eql rfl
                have ec1 : ∀ kk, vbin Try.prog kk .eql 5 (.int .u8 (c : Int)) (.int .u8 126) = some (.bool (decide (c = 126))) := fun kk => vI_eql rfl
                generalize decide (c = 35) = c0 at ec0
                generalize decide (c = 126) = c1 at ec1
                generalize hfi : decide (i = 0) = fi at ei
                clear hD18 hD hD2 hK hks hkey hchk gk n1 i1 hns hpn e0 elen hne ho
                generalize ex.q = qq at pl2 hpos
                cases fi with
                | false => simp [h3, ei]; exact ⟨rfl, ⟨⟨by simp [hds], by simp [hg], by simp [h1], by simp [h3]⟩, by simp [h4]⟩, by simp, .refl _⟩
                | true =>
                  cases qq with
                  | true => simp [h3, h4, ei, t2, pl2]; exact ⟨rfl, ⟨⟨by simp [hds], by simp [hg], by simp [h1], by simp [h3]⟩, by simp [h4]⟩, by simp, .refl _⟩
                  | false =>
                    have vi9' := vi9 (hpos rfl)
                    cases c0 with
                    | true => simp [h3, h4, ei, t2, pl2, t1, pl1, vi9', ec0]; exact ⟨rfl, ⟨⟨by simp [hds], by simp [hg], by simp [h1], by simp [h3]⟩, by simp [h4]⟩, by simp, .refl _⟩
                    | false => simp [h3, h4, ei, t2, pl2, t1, pl1, vi9', ec0, ec1]; exact ⟨rfl, ⟨⟨by simp [hds], by simp [hg], by simp [h1], by simp [h3]⟩, by simp [h4]⟩, by simp, .refl _⟩
              case t18 => as_aux_lemma =>
              generalize (decide (i = 0) && !ex.q && (decide (ex.t.at 0 = 35) || decide (ex.t.at 0 = 126))) = b18
              clear hds hg h1 h3 h4
              rintro e fr st5 ⟨rfl, ⟨⟨hds, hg, h1, h3⟩, h4⟩, h81, hk5⟩
              simp only [andThen]
              repeat refine Does.seq ?_
              cases b18 with
              | true =>
                refine Does.condT (by simp [h81]) ?_
                repeat refine Does.seq ?_
                refine Does.region ?_
                simp
                refine Does.ret ?_
                simp only [andThen, inBlock]
                exact .inl ⟨rfl, rfl, by simp [hds], by simp, (nk.trans hk3).trans hk5⟩
              | false =>
              refine Does.condF (by simp [h81]) ?_
              refine Does.skip ?_
              simp only [andThen, Bool.not_false, Bool.true_and]
              repeat refine Does.seq ?_
              have hkk5 : Keep st1 st5 := hkk.trans hk5
              have nb5 : st5.box.get id4 = some (.cells [.bool ex.v, .str ex.t, .bool ex.q] 33 true (some 0)) := by rw [hk5.box _ (Nat.lt_of_lt_of_le nc hk3.ctr)]; exact nb3
              clear pl0 pl1 pl2
              have nc5 : id4 < st5.ctr := Nat.lt_of_lt_of_le nc (Nat.le_trans hk3.ctr hk5.ctr)
              refine Does.mono (Q := DocF gl id1 id4 i 105 (nearO (prevO ks i) ex.key) st5) ?r20 ?t20
              case r20 => as_aux_lemma =>
                have vx := veq_self x (hx.small hl)
                have hkt := (Keep.refl st5).tick 24
                have vb : ∀ b, veq 1000000000 (.bool b) (.bool b) = true := fun b => veq_self _ (by show 1 < 1000000000; omega)
                have hk6 := hkk5.tick 24
                have l5 := vload_of (P := Try.prog) (off := 0) sa29 sz29 (show ({ ctr := st5.ctr + 24, box := st5.box } : St).box.get id1 = _ by rw [hk6.box _ hct]; exact b1) rfl
                obtain ⟨r0, r1, r2⟩ := partLoads (st := { ctr := st5.ctr + 24, box := st5.box }) nb5
                have hx6 := hx1.keep hk6
                clear hD18 hD hD2 hK hchk n1 i1 hns hpn e0 elen hne ho hpos
                cases i with
                | zero =>
                  refine Does.draw (b := [0, 1, 3, 7, 15, 7, 39, 127, 255, 511, 1023, 2047, 4095, 8191, 16383, 8191, 40959, 131071, 262143, 524287, 8191, 1056767, 4194303, 8388607]) (l := [0, 1, 2, 3, 4, 5, 6, 7, 8, 9, 10, 11, 12, 13, 14, 15, 16, 17, 18, 19, 20, 21, 22, 23]) (by kernel_rfl) (by kernel_rfl) (by kernel_rfl) ?_
                  simp at h3
                  have e1 : ∀ kk, vbin Try.prog kk .gtr 3 (.int .i64 0) (.int .i64 0) = some (.bool false) := fun kk => by rw [vbin_gtr]; rfl
                  simp [sameIn, h3, e1, prevO, nearO]
                  exact ⟨rfl, ⟨⟨by simp [hds], by simp [hg], by simp [h1], by simp [h3]⟩, by simp [h4]⟩, by simp, hkt⟩
                | succ j =>
                  obtain ⟨pa, g3, g4⟩ := hx6.get (show j < l.length by omega)
                  have gj := hkey j (by omega)
                  generalize l.getD j default = pr at g4 gj
                  obtain ⟨_, ⟨p0, m0, n0⟩, _, ⟨p2, m2, n2⟩⟩ := g4.loads
                  have i3 := g3 .i64
                  have wj : IntKind.i64.wrap (j : Int) = (j : Int) := wrap_i64 (by omega) (by omega)
                  have e1 : ∀ kk, vbin Try.prog kk .gtr 3 (.int .i64 ((j : Int) + 1)) (.int .i64 0) = some (.bool true) := fun kk => by rw [vbin_gtr, decide_eq_true (by omega)]
                  have eb : ∀ kk, vbin Try.prog kk .eql 4 (.bool pr.q) (.bool ex.q) = some (.bool (pr.q == ex.q)) := fun kk => vbin_beql
                  have hn : nearO (prevO ks (j + 1)) ex.key = (!pr.v && (pr.q == ex.q)) := by
                    show nearO (ks[j]?) ex.key = _
                    rw [gj]; rfl
                  rw [hn]
                  clear hn
                  generalize (pr.q == ex.q) = z at eb
                  generalize ex.q = qe at r2 eb
                  generalize pr.q = qp at n2 eb
                  simp at h3
                  cases hv' : pr.v with
                  | true =>
                    rw [hv'] at n0
                    refine Does.draw (b := [0, 1, 3, 7, 15, 7, 39, 127, 255, 511, 1023, 2047, 4095, 8191, 16383, 8191, 40959, 131071, 262143, 524287, 8191, 1056767, 4194303, 8388607]) (l := [0, 1, 2, 3, 4, 5, 6, 7, 8, 9, 10, 11, 12, 13, 14, 15, 16, 17, 18, 19, 20, 21, 22, 23]) (by kernel_rfl) (by kernel_rfl) (by kernel_rfl) ?_
                    simp [sameIn, h1, h3, e1, f1, l5, vx, vbin_sub, wj, i3, m0, n0, vb]
                    exact ⟨rfl, ⟨⟨by simp [hds], by simp [hg], by simp [h1], by simp [h3]⟩, by simp [h4]⟩, by simp, hkt⟩
                  | false =>
                    rw [hv'] at n0
                    refine Does.draw (b := [0, 1, 3, 7, 15, 7, 39, 127, 255, 511, 1023, 2047, 4095, 8191, 16383, 8191, 40959, 131071, 262143, 524287, 8191, 1056767, 4194303, 8388607]) (l := [0, 1, 2, 3, 4, 5, 6, 7, 8, 9, 10, 11, 12, 13, 14, 15, 16, 17, 18, 19, 20, 21, 22, 23]) (by kernel_rfl) (by kernel_rfl) (by kernel_rfl) ?_
                    simp [sameIn, h1, h3, h4, e1, f1, l5, vx, vbin_sub, wj, i3, m0, n0, m2, n2, t2, r2, eb, vb]
                    exact ⟨rfl, ⟨⟨by simp [hds], by simp [hg], by simp [h1], by simp [h3]⟩, by simp [h4]⟩, by simp, hkt⟩
              case t20 => as_aux_lemma =>
              generalize nearO (prevO ks i) ex.key = b20
              clear hds hg h1 h3 h4
              rintro e fr st6 ⟨rfl, ⟨⟨hds, hg, h1, h3⟩, h4⟩, h105, hk6⟩
              simp only [andThen]
              repeat refine Does.seq ?_
              cases b20 with
              | true =>
                refine Does.condT (by simp [h105]) ?_
                repeat refine Does.seq ?_
                refine Does.region ?_
                simp
                refine Does.ret ?_
                simp only [andThen, inBlock]
                exact .inl ⟨rfl, rfl, by simp [hds], by simp, ((nk.trans hk3).trans hk5).trans hk6⟩
              | false =>
              refine Does.condF (by simp [h105]) ?_
              refine Does.skip ?_
              simp only [andThen, Bool.not_false, Bool.true_and]
              repeat refine Does.seq ?_
              have hkk6 : Keep st1 st6 := hkk5.trans hk6
              have nb6 : st6.box.get id4 = some (.cells [.bool ex.v, .str ex.t, .bool ex.q] 33 true (some 0)) := by rw [hk6.box _ nc5]; exact nb5
              obtain ⟨pl0, pl1, pl2⟩ := partLoads nb6
              refine Does.mono (Q := DocF gl id1 id4 i 142 (ex.q && ex.t.toList.isEmpty && (quotO (prevO ks i) || quotO ks[i + 1]?)) st6) ?r22 ?t22
              case r22 => as_aux_lemma =>
                have l6 := vload_of (P := Try.prog) (off := 0) sa29 sz29 (show st6.box.get id1 = _ by rw [hkk6.box _ hct]; exact b1) rfl
                have hx6 := hx1.keep hkk6
                have ete := str_empty ex.t
                have hp0 : i = 0 → quotO (prevO ks i) = false := fun h => by subst h; rfl
                have hps : ∀ j, i = j + 1 → quotO (prevO ks i) = (l.getD j default).q := fun j h => by
                  subst h
                  show quotO ks[j]? = _
                  rw [hkey j (by omega)]; rfl
                have hnext : quotO ks[i + 1]? = (decide (i + 1 < l.length) && (l.getD (i + 1) default).q) := by
                  by_cases h : i + 1 < l.length
                  · rw [hkey _ h, decide_eq_true h]; rfl
                  · rw [decide_eq_false h, List.getElem?_eq_none (by omega)]; rfl
                generalize quotO (prevO ks i) = qp at hp0 hps
                generalize quotO ks[i + 1]? = qn at hnext
                clear hD18 hD hD2 hK hchk n1 i1 hns hpn e0 elen hne ho hpos gk hv
                generalize ex.t.toList.isEmpty = te at ete
                generalize ex.q = qe at pl2
                refine Does.region ?_
                refine Oks.cont (Q := fun fr st' => AtSt st6 st' ∧ FJ gl id1 id4 i fr ∧ Fr.at fr 142 = .bool (qe && te && (qp || qn))) ?all (fun fr st' h => ⟨rfl, h.2.1, h.2.2, by rw [show st' = st6 from h.1]; exact .refl _⟩)
                refine Oks.cut 8 (fun fr st' => AtSt st6 st' ∧ FJ gl id1 id4 i fr ∧ Fr.at fr 113 = .bool (qe && te)) ?c1 ?c2
                case c1 => as_aux_lemma =>
                  simp only [List.take, List.take_succ_cons]
                  cases qe <;> simp [h4, t2, pl2, t1, pl1, vbin_seql, ete] <;> exact ⟨rfl, ⟨⟨by simp [hds], by simp [hg], by simp [h1], by simp [h3]⟩, by simp [h4]⟩⟩
                case c2 => as_aux_lemma =>
                clear hds hg h1 h3 h4 pl0 pl1 pl2
                rintro fr st' ⟨hst', ⟨⟨hds, hg, h1, h3⟩, h4⟩, h113⟩
                rw [show st' = st6 from hst']
                clear hst'
                refine Oks.cut 12 (fun fr st' => AtSt st6 st' ∧ FJ gl id1 id4 i fr ∧ Fr.at fr 113 = .bool (qe && te) ∧ Fr.at fr 125 = (if (qe && te) = true then .bool qp else .tup [])) ?c3 ?c4
                case c3 => as_aux_lemma =>
                  simp only [List.take, List.take_succ_cons, List.drop, List.drop_succ_cons]
                  generalize (qe && te) = z at h113
                  cases z with
                  | false => simp [h113, h3]; exact ⟨rfl, ⟨⟨by simp [hds], by simp [hg], by simp [h1], by simp [h3]⟩, by simp [h4]⟩⟩
                  | true =>
                    cases i with
                    | zero =>
                      simp at h3
                      have hp0 := hp0 rfl
                      subst hp0
                      have e1 : ∀ kk, vbin Try.prog kk .gtr 3 (.int .i64 0) (.int .i64 0) = some (.bool false) := fun kk => by rw [vbin_gtr]; rfl
                      simp [h113, h3, e1]; exact ⟨rfl, ⟨⟨by simp [hds], by simp [hg], by simp [h1], by simp [h3]⟩, by simp [h4]⟩⟩
                    | succ j =>
                      obtain ⟨pa, g3, g4⟩ := hx6.get (show j < l.length by omega)
                      have hprev := hps j rfl
                      clear hps hp0
                      generalize l.getD j default = pr at g4 hprev
                      obtain ⟨_, ⟨p0, m0, n0⟩, _, ⟨p2, m2, n2⟩⟩ := g4.loads
                      have i3 := g3 .i64
                      have wj : IntKind.i64.wrap (j : Int) = (j : Int) := wrap_i64 (by omega) (by omega)
                      have e1 : ∀ kk, vbin Try.prog kk .gtr 3 (.int .i64 ((j : Int) + 1)) (.int .i64 0) = some (.bool true) := fun kk => by rw [vbin_gtr, decide_eq_true (by omega)]
                      simp at h3
                      subst hprev
                      simp [h113, h1, h3, e1, f1, l6, vbin_sub, wj, i3, m2, n2]; exact ⟨rfl, ⟨⟨by simp [hds], by simp [hg], by simp [h1], by simp [h3]⟩, by simp [h4]⟩⟩
                case c4 => as_aux_lemma =>
                clear hds hg h1 h3 h4 h113 hp0 hps
                rintro fr st' ⟨hst', ⟨⟨hds, hg, h1, h3⟩, h4⟩, h113, h125⟩
                rw [show st' = st6 from hst']
                clear hst'
                simp only [List.drop, List.drop_succ_cons]
                generalize (qe && te) = z at h113 h125
                cases z with
                | false =>
                  simp only [Bool.false_eq_true, if_false] at h125
                  simp [h113, h125]; exact ⟨rfl, ⟨⟨by simp [hds], by simp [hg], by simp [h1], by simp [h3]⟩, by simp [h4]⟩⟩
                | true =>
                  simp only [if_true] at h125
                  cases qp with
                  | true => simp [h113, h125]; exact ⟨rfl, ⟨⟨by simp [hds], by simp [hg], by simp [h1], by simp [h3]⟩, by simp [h4]⟩⟩
                  | false =>
                    have wj : IntKind.i64.wrap ((i : Int) + 1) = (i : Int) + 1 := wrap_i64 (by omega) (by omega)
                    have e1 : ∀ kk, vbin Try.prog kk .lss 3 (.int .i64 ((i : Int) + 1)) (.int .i64 (l.length : Int)) = some (.bool (decide (i + 1 < l.length))) := fun kk => by
                      have := vI_lss (P := Try.prog) (kk := kk) (T := 3) (q := .i64) (c := i + 1) (m := l.length) rfl
                      simpa using this
                    by_cases hlt2 : i + 1 < l.length
                    · rw [decide_eq_true hlt2] at e1 hnext
                      obtain ⟨pa, g3, g4⟩ := hx6.get hlt2
                      generalize l.getD (i + 1) default = pr at g4 hnext
                      obtain ⟨_, ⟨p0, m0, n0⟩, _, ⟨p2, m2, n2⟩⟩ := g4.loads
                      have i3 := g3 .i64
                      simp at i3 hnext
                      subst hnext
                      simp [h113, h125, h1, h3, e1, f1, l6, lx, vbin_add, wj, i3, m2, n2]; exact ⟨rfl, ⟨⟨by simp [hds], by simp [hg], by simp [h1], by simp [h3]⟩, by simp [h4]⟩⟩
                    · rw [decide_eq_false hlt2] at e1 hnext
                      simp at hnext
                      subst hnext
                      simp [h113, h125, h1, h3, e1, f1, l6, lx, vbin_add, wj]; exact ⟨rfl, ⟨⟨by simp [hds], by simp [hg], by simp [h1], by simp [h3]⟩, by simp [h4]⟩⟩
              case t22 => as_aux_lemma =>
              generalize (ex.q && ex.t.toList.isEmpty && (quotO (prevO ks i) || quotO ks[i + 1]?)) = b22
              clear hds hg h1 h3 h4
              rintro e fr st7 ⟨rfl, ⟨⟨hds, hg, h1, h3⟩, h4⟩, h142, hk7⟩
              simp only [andThen]
              repeat refine Does.seq ?_
              cases b22 with
              | true =>
                refine Does.condT (by simp [h142]) ?_
                repeat refine Does.seq ?_
                refine Does.region ?_
                simp
                refine Does.ret ?_
                simp only [andThen, inBlock]
                exact .inl ⟨rfl, rfl, by simp [hds], by simp, (((nk.trans hk3).trans hk5).trans hk6).trans hk7⟩
              | false =>
              refine Does.condF (by simp [h142]) ?_
              refine Does.skip ?_
              simp only [inBlock]
              exact .inr ⟨rfl, rfl, ⟨hds, hg, h1, h3⟩, (((nk.trans hk3).trans hk5).trans hk6).trans hk7⟩
end Go.Vm

namespace Go.Vm
open Go Go.Proofs Go.Sy
attribute [local simp] Oks xOps vwanted isDefer vop kindOf vpure ev evs toV andThen inBlock atTo_some Fr.dsTo Fr.glTo Fr.toNone initFr_at initFr_ds initFr_gl veff traverse tupled vresult V.undef evOpt xDraw xStep

/-- a slice of parts that is held alone, in a box from b on -/
structure OwnP (b : Nat) (st : St) (s : V) (l : List Wp) : Prop where
  at' : (s = .nils ∧ l = []) ∨ ∃ id cap fl, s = .ms id 0 l.length 3 cap ∧ st.box.get id = some (.cells (ptsV l) 33 fl (some 0)) ∧ b ≤ id ∧ id < st.ctr ∧ (cap = some l.length ∨ cap = none)

theorem OwnP.vp {b : Nat} {st : St} {s : V} {l : List Wp} (h : OwnP b st s l) : Vp st s l := by
  rcases h.at' with ⟨rfl, rfl⟩ | ⟨id, cap, fl, rfl, hb, _, hid, hc⟩
  · exact .nils
  · refine .ms id 0 cap (ptsV l) [] 33 fl (some 0) l hb hid (by simp) (Nat.zero_le _) ?_
    rcases hc with rfl | rfl <;> simp [capLe, ble_self]

theorem Vp.src {st : St} {x : V} {l : List Wp} (h : Vp st x l) : srcCells st 3 x = some (ptsV l, l.length) := by
  have hl := ptsV_len l
  cases h with
  | nils => rfl
  | sl l ex => simp only [srcCells, sliceCells, hl, Nat.beq_refl]
  | ms id off cap cs r e fl fz l hb hid hd ho hc =>
    have hlen : off + l.length * 3 ≤ cs.length := by
      have := congrArg List.length hd
      simp [hl] at this; omega
    have h1 : Nat.ble (off + l.length * 3) cs.length = true := Nat.ble_eq_true_of_le hlen
    simp only [srcCells, sliceCells, hb, h1, sub, hd]
    rw [List.take_append_of_le_length (by omega), List.take_of_length_le (by omega)]

theorem i33 : ∃ i, Try.prog.info? 33 = some i ∧ i.size = 3 ∧ i.bytes ≤ 64 := ⟨_, rfl, by decide, by decide⟩

/-- nothing below b is changed -/
structure LowP (b : Nat) (st st' : St) : Prop where
  ctr : st.ctr ≤ st'.ctr
  box : ∀ id, id < b → st'.box.get id = st.box.get id
theorem LowP.keep {b : Nat} {st0 st st' : St} (h : LowP b st st') (hk : Keep st0 st) (hb : st0.ctr ≤ b) : Keep st0 st' :=
  ⟨Nat.le_trans hk.ctr h.ctr, fun id hi => by rw [h.box id (Nat.lt_of_lt_of_le hi hb)]; exact hk.box id hi⟩
theorem LowP.refl (b : Nat) (st : St) : LowP b st st := ⟨Nat.le_refl _, fun _ _ => rfl⟩
theorem LowP.trans {b : Nat} {x y z : St} (h : LowP b x y) (k : LowP b y z) : LowP b x z := ⟨Nat.le_trans h.ctr k.ctr, fun id hi => (k.box id hi).trans (h.box id hi)⟩

theorem OwnP.app {b : Nat} {st : St} {s x : V} {l m : List Wp} (h : OwnP b st s l) (hx : Vp st x m) (hn : l.length + m.length < 4000000) (hb0 : b ≤ st.ctr) :
    ∃ y st', vappend Try.prog st 29 s x = some (y, st') ∧ OwnP b st' y (l ++ m) ∧ LowP b st st' := by
  obtain ⟨i, hi, hs, hby⟩ := i33
  have hsrc := hx.src
  have hm3 := ptsV_len m
  have hzb : Nat.beq 3 0 = false := rfl
  have hzl : Nat.beq ([V.bool false, .str ⟨0, 0⟩, .bool false] : List V).length 3 = true := rfl
  have hone := ptsV_one m
  have hsl : sliceCells st 3 s = some (ptsV l, l.length) := by
    have := h.vp.src
    rcases h.at' with ⟨rfl, rfl⟩ | ⟨id, cap, fl, rfl, hb, _, hid, hc⟩ <;> exact this
  by_cases hm : m = []
  · subst hm
    refine ⟨s, st, ?_, by rw [List.append_nil]; exact h, .refl _ _⟩
    simp only [vappend, Try.underlying29, hi, hs, zs33, hzb, hsrc, hsl]
    rfl
  have hmb : Nat.beq m.length 0 = false := by
    cases m with
    | nil => exact absurd rfl hm
    | cons a b => rfl
  have hmp : 0 < m.length := by
    cases m with
    | nil => exact absurd rfl hm
    | cons a b => simp
  have h1 : Nat.ble ((l.length + m.length) * i.bytes) maxBytes = true := Nat.ble_eq_true_of_le (Nat.le_trans (Nat.mul_le_mul (Nat.le_of_lt hn) hby) (by decide))
  have h2 : Nat.ble (l.length + m.length) maxBytes = true := Nat.ble_eq_true_of_le (Nat.le_trans (Nat.le_of_lt hn) (by decide))
  have hnew : ∀ (bx : Tr Bx), OwnP b { ctr := st.ctr + 1, box := bx.put st.ctr (.cells (ptsV l ++ ptsV m) 33 false (some 0)) } (.ms st.ctr 0 (l.length + m.length) 3 none) (l ++ m) := fun bx =>
    ⟨.inr ⟨st.ctr, none, false, by rw [List.length_append], by rw [Tr.get_put, if_pos rfl, ptsV_app], hb0, Nat.lt_succ_self _, .inr rfl⟩⟩
  rcases h.at' with ⟨rfl, rfl⟩ | ⟨id, cap, fl, rfl, hb, hbid, hid, hc⟩
  · refine ⟨_, _, ?_, hnew st.box, ⟨Nat.le_succ _, fun j hj => by rw [Tr.get_put, if_neg (by omega)]⟩⟩
    simp only [vappend, Try.underlying29, hi, hs, zs33, hzb, hsrc, hsl, hmb, h1, h2, hzl, hone]
    rfl
  · rcases hc with rfl | rfl
    · have h3 : Nat.ble (l.length + m.length) l.length = false := by
        rw [Bool.eq_false_iff]; intro h; have := Nat.le_of_ble_eq_true h; omega
      refine ⟨_, _, ?_, hnew st.box, ⟨Nat.le_succ _, fun j hj => by rw [Tr.get_put, if_neg (by omega)]⟩⟩
      simp only [vappend, Try.underlying29, hi, hs, zs33, hzb, hsrc, hsl, hmb, h1, h2, hzl, hone, hb, roomOf, h3]
      rfl
    · have h3 : Nat.ble (0 + (l.length + m.length) * 3) (ptsV l).length = false := by
        rw [Bool.eq_false_iff, ptsV_len]; intro h; have := Nat.le_of_ble_eq_true h; omega
      refine ⟨_, _, ?_, hnew (st.box.del id), ⟨Nat.le_succ _, fun j hj => by rw [Tr.get_put, if_neg (by omega), Tr.get_del, if_neg (by omega)]⟩⟩
      simp only [vappend, Try.underlying29, hi, hs, zs33, hzb, hsrc, hsl, hmb, h1, h2, hzl, hone, hb, roomOf, h3]
      rfl

theorem Vp.tail {st : St} {x : V} {l : List Wp} (h : Vp st x l) {lo : Nat} (hlo : lo ≤ l.length) {k : IntKind} :
    ∃ y, vslice Try.prog 29 x (some (.int k (lo : Int))) none = some y ∧ Vp st y (l.drop lo) := by
  have hb : Nat.ble lo l.length = true := Nat.ble_eq_true_of_le hlo
  have hl := ptsV_len l
  cases h with
  | nils =>
    have : lo = 0 := by simpa using hlo
    subst this
    exact ⟨.nils, by simp only [vslice, Try.underlying29, z33]; rfl, .nils⟩
  | sl l ex =>
    refine ⟨_, by simp only [vslice, Try.underlying29, bound, asNat_cast, z33, hb, ble_self, hl, Nat.beq_refl, Bool.and_true, Bool.true_and]; rfl, ?_⟩
    have h1 : sub (ptsV l) (lo * 3) ((l.length - lo) * 3) = ptsV (l.drop lo) := by
      simp only [sub]
      rw [ptsV_drop, List.take_of_length_le (by rw [ptsV_len]; simp)]
    have h2 : l.length - lo = (l.drop lo).length := by simp
    rw [h1, h2]
    exact .sl _ _
  | ms id off cap cs r e fl fz l hbx hid hd ho hc =>
    refine ⟨_, by simp only [vslice, Try.underlying29, bound, asNat_cast, z33, hb, hc, Nat.beq_refl, Bool.and_true, Bool.true_and]; rfl, ?_⟩
    have h2 : l.length - lo = (l.drop lo).length := by simp
    rw [h2]
    have hlen : off + l.length * 3 ≤ cs.length := by
      have := congrArg List.length hd
      simp [hl] at this; omega
    refine .ms id (off + lo * 3) _ cs r e fl fz (l.drop lo) hbx hid ?_ (by omega) ?_
    · rw [← List.drop_drop, hd, List.drop_append_of_le_length (by omega), ptsV_drop]
    · cases cap with
      | none => simp [capSub, capLe, ble_self]
      | some c =>
        simp only [capLe, capSub, List.length_drop] at hc ⊢
        have := Nat.le_of_ble_eq_true hc
        exact Nat.ble_eq_true_of_le (by show l.length - lo ≤ c - lo; omega)

variable [Memo] [NY]

/-- slices.Clone of parts: a slice of its own, or none -/
theorem clone_ok (gl : Gl) (st : St) (x : V) (l : List Wp) (hx : Vp st x l) (hl : l.length < 1000000) :
    ∃ v st', W Try.prog (.call gl 41 [x]) st = .call (.val v st') ∧ OwnP st.ctr st' v l ∧ Keep st st' := by
  refine call_ex (NY.no _ rfl rfl _ _) Try.func41 rfl (by kernel_rfl) ?_
  repeat refine Does.seq ?_
  refine Does.region ?_
  simp
  repeat refine Does.seq ?_
  refine Does.region ?_
  by_cases hn : x = .nils
  · subst hn
    have hl0 : l = [] := by cases hx; rfl
    subst hl0
    have e1 : ∀ kk, vbin Try.prog kk .eql 29 .nils .nils = some (.bool true) := fun kk => by cases kk <;> rfl
    simp [e1]
    repeat refine Does.seq ?_
    refine Does.condT (by simp) ?_
    repeat refine Does.seq ?_
    refine Does.region ?_
    simp
    refine Does.ret ?_
    simp
    exact ⟨⟨.inl ⟨rfl, rfl⟩⟩, .refl _⟩
  · have e1 : vbin Try.prog true .eql 29 x .nils = some (.bool false) := by
      cases hx with
      | nils => exact absurd rfl hn
      | sl l ex => rfl
      | ms => rfl
    have e2 : isK (.const (.slice none 0 0)) = true := rfl
    simp [e1, e2]
    repeat refine Does.seq ?_
    refine Does.condF (by simp) ?_
    refine Does.skip ?_
    simp
    repeat refine Does.seq ?_
    refine Does.region ?_
    have bs0 : vbuildSlice Try.prog 29 0 [] = some ([], 33, 3) := by kernel_rfl
    have hk0 := (Keep.refl st).new (.cells [] 33 true (some 0))
    have ho : OwnP st.ctr { ctr := st.ctr + 1, box := st.box.put st.ctr (.cells [] 33 true (some 0)) } (.ms st.ctr 0 0 3 (some 0)) [] :=
      ⟨.inr ⟨st.ctr, some 0, true, rfl, by rw [Tr.get_put, if_pos rfl]; rfl, Nat.le_refl _, Nat.lt_succ_self _, .inl rfl⟩⟩
    obtain ⟨y, st', ha, ho', hlow⟩ := ho.app (hx.keep hk0) (by simp; omega) (Nat.le_succ _)
    have hkk := hlow.keep hk0 (Nat.le_refl _)
    simp [valloc, evParts, bs0, mkRef, vact, ha]
    refine Does.ret ?_
    simp
    exact ⟨by simpa using ho', hkk⟩
end Go.Vm

namespace Go.Vm
open Go Go.Proofs Go.Sy
attribute [local simp] Oks xOps vwanted isDefer vop kindOf vpure ev evs toV andThen inBlock atTo_some Fr.dsTo Fr.glTo Fr.toNone initFr_at initFr_ds initFr_gl veff traverse tupled vresult V.undef evOpt xDraw xStep

/-- the parts of the word that an assignment spells -/
def asgW (nm : S) : List Wp → List Wp
  | [] => [⟨false, nm.app (S.ofList [61]), false⟩]
  | p :: r => if (!p.v && !p.q && !p.t.toList.isEmpty) = true then ⟨false, (nm.app (S.ofList [61])).app p.t, false⟩ :: r else ⟨false, nm.app (S.ofList [61]), false⟩ :: p :: r

theorem z31 : sizeT Try.prog 31 = some 2 := by kernel_rfl
theorem zs31 : zeroT Try.prog 31 = some (.agg [.nils, .int .i64 0]) := by kernel_rfl

def newWord2 (st : St) (x : V) (a : Int) : St := { ctr := st.ctr + 1 + 1, box := (st.box.put st.ctr (.cells [x, .int .i64 a] 31 true (some 0))).put (st.ctr + 1) (.cells [.nils, .int .i64 0] 31 true (some 0)) }

theorem bld33 (s : S) : vbuild Try.prog 33 [(1, .str s)] = some (.agg [.bool false, .str s, .bool false]) := by kernel_rfl
/-- does the word begin with bare text? -/
def asgB : List Wp → Bool
  | [] => false
  | p :: _ => !p.v && !p.q && !p.t.toList.isEmpty
def AsgQ (gl : Gl) (id4 id6 : Nat) (x : V) (l : List Wp) (st2 : St) (e : AE) (fr : Fr) (st' : St) : Prop := AtSt st2 st' ∧ e = AE.normal ∧ fr.ds = [] ∧ fr.gl = gl ∧ Fr.at fr 4 = .ptr id4 0 ∧ Fr.at fr 5 = x ∧ Fr.at fr 6 = .ptr id6 0 ∧ Fr.at fr 35 = .bool (asgB l)

def asgW' (nq : S) : List Wp → List Wp
  | [] => [⟨false, nq, false⟩]
  | p :: r => if (!p.v && !p.q && !p.t.toList.isEmpty) = true then ⟨false, nq.app p.t, false⟩ :: r else ⟨false, nq, false⟩ :: p :: r
def AsgP (gl : Gl) (id4 id6 : Nat) (st1 : St) (n : Nat) (res : List Wp) (e : AE) (fr : Fr) (st' : St) : Prop := e = AE.normal ∧ fr.ds = [] ∧ fr.gl = gl ∧ Fr.at fr 4 = .ptr id4 0 ∧ Fr.at fr 6 = .ptr id6 0 ∧ Keep st1 st' ∧ id6 < st'.ctr ∧
  ∃ q l' y, Fr.at fr 5 = y ∧ Vp st' y l' ∧ st'.box.get id6 = some (.cells [.bool false, .str q, .bool false] 33 true (some 0)) ∧ res = ⟨false, q, false⟩ :: l' ∧ l'.length ≤ n

theorem asg_no (nq : S) {l : List Wp} (h : asgB l = false) : asgW' nq l = ⟨false, nq, false⟩ :: l := by
  cases l with
  | nil => rfl
  | cons p r =>
    unfold asgB at h
    unfold asgW'
    simp only [h]
    rfl
theorem asg_yes (nq : S) {p : Wp} {r : List Wp} (h : asgB (p :: r) = true) : asgW' nq (p :: r) = ⟨false, nq.app p.t, false⟩ :: r := by
  unfold asgB at h
  unfold asgW'
  simp only [h]
  rfl

theorem bs33 (q : S) : vbuildSlice Try.prog 29 1 [(0, .agg [.bool false, .str q, .bool false])] = some ([.bool false, .str q, .bool false], 33, 3) := by kernel_rfl

theorem bld31 {st : St} {z : V} {l : List Wp} (h : Vp st z l) : vbuild Try.prog 31 [(0, z)] = some (.agg [z, .int .i64 0]) := by
  cases h <;> kernel_rfl
theorem a31 : isAggT Try.prog 31 = some true := by kernel_rfl
theorem vload31 {st : St} {id : Nat} {x : V} {a : Int} {e : TypeId} {fl : Bool} {fz : Option Nat} (hb : st.box.get id = some (.cells [x, .int .i64 a] e fl fz)) : vload Try.prog st 31 (.ptr id 0) = some (.agg [x, .int .i64 a]) := by
  simp only [vload, hb, vpart, a31, z31]
  rfl

theorem OwnP.put {b : Nat} {st : St} {s : V} {l : List Wp} (h : OwnP b st s l) {id : Nat} (hid : id < b) (x : Bx) : OwnP b { st with box := st.box.put id x } s l := by
  rcases h.at' with h | ⟨i, cap, fl, rfl, hb, hbi, hi, hc⟩
  · exact ⟨.inl h⟩
  · exact ⟨.inr ⟨i, cap, fl, rfl, by rw [Tr.get_put, if_neg (by omega)]; exact hb, hbi, hi, hc⟩⟩

variable [Memo] [NY]

set_option maxHeartbeats 1000000 in
theorem assigned_ok (gl : Gl) (st : St) (nm : S) (w : V) (l : List Wp) (hx : Wv st w l) (hl : l.length < 1000000) (hn : nm.n < 400000000) (hs : ∀ p ∈ l, p.t.n < 400000000) :
    ∃ v st', W Try.prog (.call gl 25 [.str nm, w]) st = .call (.val v st') ∧ Wv st' v (asgW nm l) ∧ Keep st st' := by
  obtain ⟨x, a, rfl, hx⟩ := hx
  have ox := hx.one
  have oi : ∀ k n, oneC (.int k n) = true := fun _ _ => rfl
  have lx := hx.len
  have on : oneC .nils = true := rfl
  refine call_ex (NY.no _ rfl rfl _ _) Try.func25 rfl (by kernel_rfl) ?_
  repeat refine Does.seq ?_
  refine Does.region ?_
  simp [valloc, V.cells, ox, oi, mkRef, zs31, on]
  have hk1 : Keep st (newWord2 st x a) := ((Keep.refl st).new _).new _
  have b3 : (newWord2 st x a).box.get st.ctr = some (.cells [x, .int .i64 a] 31 true (some 0)) := by unfold newWord2; rw [Tr.get_put, if_neg (by omega), Tr.get_put, if_pos rfl]
  have b4 : (newWord2 st x a).box.get (st.ctr + 1) = some (.cells [.nils, .int .i64 0] 31 true (some 0)) := by unfold newWord2; rw [Tr.get_put, if_pos rfl]
  have hct : st.ctr + 1 < (newWord2 st x a).ctr := Nat.lt_succ_self _
  have hcs : st.ctr ≤ st.ctr := Nat.le_refl _
  rw [show ({ ctr := st.ctr + 1 + 1, box := (st.box.put st.ctr (.cells [x, .int .i64 a] 31 true (some 0))).put (st.ctr + 1) (.cells [.nils, .int .i64 0] 31 true (some 0)) } : St) = newWord2 st x a from rfl]
  revert hk1 b3 b4 hct
  generalize newWord2 st x a = st1
  generalize hid : st.ctr = id3
  intro hk1 b3 b4 hct
  have f3 := wf0 id3
  have hx1 := hx.keep hk1
  have l1 := vload_of (P := Try.prog) (off := 0) sa29 sz29 b3 rfl
  repeat refine Does.seq ?_
  refine Does.region ?_
  simp [f3, l1]
  repeat refine Does.seq ?_
  refine Does.region ?_
  have h61 : (S.ofList [61]).n = 1 := by decide
  have hadd := vbin_sadd (P := Try.prog) (kk := true) (T := 9) (x := nm) (y := S.ofList [61]) (by omega)
  have hpn := newPart_store st1 ⟨false, nm.app (S.ofList [61]), false⟩
  refine Oks.cont (Q := fun fr st' => st' = newPart st1 ⟨false, nm.app (S.ofList [61]), false⟩ ∧ fr.ds = [] ∧ fr.gl = gl ∧ Fr.at fr 4 = .ptr (id3 + 1) 0 ∧ Fr.at fr 5 = x ∧ Fr.at fr 6 = .ptr st1.ctr 0) ?r2 ?rest
  case r2 => simp [isK, hadd, evParts, bld33, valloc, zs33, V.cells, oneC, mkRef, vact, hpn]
  case rest =>
  rintro fr st' ⟨hst', hds, hg, h4, h5, h6⟩
  rw [hst']
  clear hst'
  simp only [andThen]
  have nk := newPart_keep st1 ⟨false, nm.app (S.ofList [61]), false⟩
  have nb := newPart_box st1 ⟨false, nm.app (S.ofList [61]), false⟩
  have nc := newPart_ctr st1 ⟨false, nm.app (S.ofList [61]), false⟩
  have hnm : (nm.app (S.ofList [61])).n = nm.n + 1 := rfl
  rw [show asgW nm l = asgW' (nm.app (S.ofList [61])) l from by cases l <;> rfl]
  revert nk nb nc hnm
  generalize nm.app (S.ofList [61]) = nq
  generalize newPart st1 ⟨false, nq, false⟩ = st2
  have hcc := hk1.ctr
  generalize hid6 : st1.ctr = id6 at hct hcc h6
  intro nk nb nc hnm
  have hk2 := hk1.trans nk
  have hx2 := hx1.keep nk
  repeat refine Does.seq ?_
  refine Does.mono (Q := AsgQ gl (id3 + 1) id6 x l st2) ?r3 ?t3
  case r3 => as_aux_lemma =>
    refine Does.region ?_
    have e0 : ∀ kk, vbin Try.prog kk .gtr 3 (.int .i64 (l.length : Int)) (.int .i64 0) = some (.bool (decide (0 < l.length))) := fun kk => vI_gtr rfl
    refine Oks.cont (Q := fun fr st' => AtSt st2 st' ∧ fr.ds = [] ∧ fr.gl = gl ∧ Fr.at fr 4 = .ptr (id3 + 1) 0 ∧ Fr.at fr 5 = x ∧ Fr.at fr 6 = .ptr id6 0 ∧ Fr.at fr 35 = .bool (asgB l)) ?_ (fun fr st' h => ⟨h.1, rfl, h.2⟩)
    cases l with
    | nil =>
      have e1 : ∀ kk, vbin Try.prog kk .gtr 3 (.int .i64 0) (.int .i64 0) = some (.bool false) := e0
      have lx' : vlen Try.prog 29 x = some (.int .i64 0) := lx
      refine Oks.cut 11 (fun fr st' => AtSt st2 st' ∧ fr.ds = [] ∧ fr.gl = gl ∧ Fr.at fr 4 = .ptr (id3 + 1) 0 ∧ Fr.at fr 5 = x ∧ Fr.at fr 6 = .ptr id6 0 ∧ Fr.at fr 22 = .bool false) ?c1 ?c2
      case c1 => as_aux_lemma =>
        simp only [List.take, List.take_succ_cons]
        simp [lx', e1, h4, h5, h6, hds, hg]
        exact rfl
      case c2 => as_aux_lemma =>
      clear hds hg h4 h5 h6
      rintro fr st' ⟨hst', hds, hg, h4, h5, h6, h22⟩
      rw [show st' = st2 from hst']
      clear hst'
      simp only [List.drop, List.drop_succ_cons]
      simp [h22, h4, h5, h6, hds, hg]
      exact ⟨rfl, rfl⟩
    | cons p r =>
      rw [decide_eq_true (by simp)] at e0
      obtain ⟨pa, g3, g4⟩ := hx2.get (show 0 < (p :: r).length by simp)
      rw [show (p :: r).getD 0 default = p from rfl] at g4
      obtain ⟨_, ⟨p0, m0, n0⟩, ⟨p1, m1, n1⟩, ⟨p2, m2, n2⟩⟩ := g4.loads
      have i3 := g3 .i64
      simp only [Int.ofNat_zero, Int.cast_ofNat_Int] at i3
      have ete := str_empty p.t
      rw [show asgB (p :: r) = (!p.v && !p.q && !p.t.toList.isEmpty) from rfl]
      generalize p.t.toList.isEmpty = te at ete
      generalize (p :: r).length = ln at e0 lx
      generalize p.v = vv at n0
      generalize p.q = qq at n2
      generalize p.t = tt at n1 ete
      clear hs hl hx hx1 hx2 hadd hpn hk1 nk nb nc hnm hk2 g3 g4 b3 b4 l1 f3
      refine Oks.cut 11 (fun fr st' => AtSt st2 st' ∧ fr.ds = [] ∧ fr.gl = gl ∧ Fr.at fr 4 = .ptr (id3 + 1) 0 ∧ Fr.at fr 5 = x ∧ Fr.at fr 6 = .ptr id6 0 ∧ Fr.at fr 22 = .bool (!vv)) ?c1 ?c2
      case c1 => as_aux_lemma =>
        simp only [List.take, List.take_succ_cons]
        simp [lx, e0, i3, m0, n0, h4, h5, h6, hds, hg]
        exact rfl
      case c2 => as_aux_lemma =>
      clear hds hg h4 h5 h6
      rintro fr st' ⟨hst', hds, hg, h4, h5, h6, h22⟩
      rw [show st' = st2 from hst']
      clear hst'
      refine Oks.cut 7 (fun fr st' => AtSt st2 st' ∧ fr.ds = [] ∧ fr.gl = gl ∧ Fr.at fr 4 = .ptr (id3 + 1) 0 ∧ Fr.at fr 5 = x ∧ Fr.at fr 6 = .ptr id6 0 ∧ Fr.at fr 29 = .bool (!vv && !qq)) ?c3 ?c4
      case c3 => as_aux_lemma =>
        simp only [List.take, List.take_succ_cons, List.drop, List.drop_succ_cons]
        cases vv <;> simp only [Bool.not_true, Bool.not_false] at h22
        · simp [h22, i3, m2, n2, h4, h5, h6, hds, hg]
          exact rfl
        · simp [h22, h4, h5, h6, hds, hg]
          exact rfl
      case c4 => as_aux_lemma =>
      clear hds hg h4 h5 h6 h22
      rintro fr st' ⟨hst', hds, hg, h4, h5, h6, h29⟩
      rw [show st' = st2 from hst']
      clear hst'
      simp only [List.drop, List.drop_succ_cons]
      generalize (!vv && !qq) = z at h29
      cases z
      · simp [h29, h4, h5, h6, hds, hg]
        exact rfl
      · simp [h29, i3, m1, n1, vbin_sneq, ete, h4, h5, h6, hds, hg]
        exact rfl
  case t3 => as_aux_lemma =>
    clear hds hg h4 h5 h6
    rintro e fr st' ⟨hst', rfl, hds, hg, h4, h5, h6, h35⟩
    rw [show st' = st2 from hst']
    clear hst'
    simp only [andThen]
    repeat refine Does.seq ?_
    refine Does.mono (Q := AsgP gl (id3 + 1) id6 st1 l.length (asgW' nq l)) ?c ?r
    case c => as_aux_lemma =>
      cases l with
      | nil =>
        refine Does.condF (by rw [show ev fr (.tmp 35) = some (Fr.at fr 35) from rfl, h35]; rfl) ?_
        refine Does.skip ?_
        exact ⟨rfl, hds, hg, h4, h6, nk, nc, nq, [], x, h5, hx2, nb, rfl, Nat.le_refl _⟩
      | cons p r =>
        cases hb : asgB (p :: r) with
        | false =>
          rw [hb] at h35
          refine Does.condF (by simp [h35]) ?_
          refine Does.skip ?_
          refine ⟨rfl, hds, hg, h4, h6, nk, nc, nq, p :: r, x, h5, hx2, nb, ?_, Nat.le_refl _⟩
          exact asg_no nq hb
        | true =>
          rw [hb] at h35
          refine Does.condT (by simp [h35]) ?_
          repeat refine Does.seq ?_
          refine Does.draw (b := [0, 1, 0, 4, 12, 28, 63, 127, 255]) (l := [0, 1, 2, 3, 4, 5, 6, 7, 8]) (by kernel_rfl) (by kernel_rfl) (by kernel_rfl) ?_
          have hkt := (Keep.refl st2).tick 9
          have hx3 := hx2.keep hkt
          have t1 := pg1 id6 0
          simp only [Nat.zero_add] at t1
          have r1 := (partLoads (st := { ctr := st2.ctr + 9, box := st2.box }) (p := ⟨false, nq, false⟩) nb).2.1
          obtain ⟨pa, g3, g4⟩ := hx3.get (show 0 < (p :: r).length by simp)
          rw [show (p :: r).getD 0 default = p from rfl] at g4
          obtain ⟨_, _, ⟨p1, m1, n1⟩, _⟩ := g4.loads
          have i3 := g3 .i64
          simp only [Int.ofNat_zero, Int.cast_ofNat_Int] at i3
          have hpn := hs p (by simp)
          have hadd := vbin_sadd (P := Try.prog) (kk := false) (T := 9) (x := nq) (y := p.t) (by omega)
          have hyes := asg_yes nq hb
          have hst := vstore_one (P := Try.prog) (st := { ctr := st2.ctr + 9, box := st2.box }) (t := 9) (off := 1) (v := .str (nq.app p.t)) sz9 nb (by simp) rfl
          simp only [List.set_cons_succ, List.set_cons_zero] at hst
          simp only at r1 hst
          simp [sameIn, h5, h6, t1, r1, i3, m1, n1, isK, hadd, vact, hst, veq_str]
          have hk3 : Keep st1 { ctr := st2.ctr + 9, box := st2.box.put id6 (.cells [.bool false, .str (nq.app p.t), .bool false] 33 true (some 0)) } := Keep.put (id := id6) (nk.tick 9) (by omega) _
          have nb3 : ({ ctr := st2.ctr + 9, box := st2.box.put id6 (.cells [.bool false, .str (nq.app p.t), .bool false] 33 true (some 0)) } : St).box.get id6 = some (.cells [.bool false, .str (nq.app p.t), .bool false] 33 true (some 0)) := by rw [Tr.get_put, if_pos rfl]
          have hc3 : id6 < ({ ctr := st2.ctr + 9, box := st2.box.put id6 (.cells [.bool false, .str (nq.app p.t), .bool false] 33 true (some 0)) } : St).ctr := Nat.lt_of_lt_of_le nc (Nat.le_add_right _ _)
          revert hk3 nb3 hc3
          generalize ({ ctr := st2.ctr + 9, box := st2.box.put id6 (.cells [.bool false, .str (nq.app p.t), .bool false] 33 true (some 0)) } : St) = st3
          intro hk3 nb3 hc3
          obtain ⟨y, hy1, hy2⟩ := (hx1.keep hk3).tail (lo := 1) (k := .i64) (by simp)
          rw [show ((1 : Nat) : Int) = 1 from rfl] at hy1
          refine Does.region ?_
          simp [h5, hy1]
          exact ⟨rfl, by simp [hds], by simp [hg], by simp [h4], by simp [h6], hk3, hc3, nq.app p.t, r, y, by simp, hy2, nb3, hyes, by omega⟩
    case r => as_aux_lemma =>
      clear hds hg h4 h5 h6 h35
      rintro e fr st3 ⟨rfl, hds, hg, h4, h6, hk3, hc3, q, l', y, h5, hy, nb3, hres, hlen⟩
      simp only [andThen]
      repeat refine Does.seq ?_
      refine Does.region ?_
      have hvl : vload Try.prog st3 33 (.ptr id6 0) = some (.agg [.bool false, .str q, .bool false]) := by
        have := (AdP.ptr (st := st3) ⟨false, q, false⟩ id6 0 _ [] 33 true (some 0) nb3 hc3 rfl).loads.1
        exact this
      have bs1 := bs33 q
      have hk4 := hk3.new (.cells [.bool false, .str q, .bool false] 33 true (some 0))
      have ho : OwnP st3.ctr { ctr := st3.ctr + 1, box := st3.box.put st3.ctr (.cells [.bool false, .str q, .bool false] 33 true (some 0)) } (.ms st3.ctr 0 1 3 (some 1)) [⟨false, q, false⟩] :=
        ⟨.inr ⟨st3.ctr, some 1, true, rfl, by rw [Tr.get_put, if_pos rfl]; rfl, Nat.le_refl _, Nat.lt_succ_self _, .inl rfl⟩⟩
      obtain ⟨z, st4, ha, ho', hlow⟩ := ho.app (hy.keep ((Keep.refl st3).new _)) (by simp; omega) (Nat.le_succ _)
      have hz := bld31 ho'.vp
      have oz := ho'.vp.one
      have hk5 : Keep st1 st4 := hlow.keep hk4 hk3.ctr
      have hs4 := store_all (P := Try.prog) (l := [z, .int .i64 0]) z31 (show st4.box.get (id3 + 1) = _ by rw [hk5.box _ (by omega)]; exact b4) rfl rfl (by simp [oz, oi])
      have o3 : oneC (.bool false) = true := rfl
      have o4 : oneC (.str q) = true := rfl
      simp [h4, h5, h6, hvl, valloc, evParts, bs1, mkRef, o3, o4, vact, ha, hz, hs4]
      have hld := vload31 (st := { st4 with box := st4.box.put (id3 + 1) (.cells [z, .int .i64 0] 31 true (some 0)) }) (id := id3 + 1) (x := z) (a := 0) (e := 31) (fl := true) (fz := some 0) (by rw [Tr.get_put, if_pos rfl])
      have hk6 : Keep st { st4 with box := st4.box.put (id3 + 1) (.cells [z, .int .i64 0] 31 true (some 0)) } := Keep.put (hk1.trans hk5) (by omega) _
      have hfin := (ho'.put (id := id3 + 1) (by have := hk3.ctr; omega) (.cells [z, .int .i64 0] 31 true (some 0))).vp
      refine Does.ret ?_
      simp [hds, h4, hld]
      rw [hres]
      exact ⟨⟨z, 0, rfl, hfin⟩, hk6⟩
end Go.Vm
