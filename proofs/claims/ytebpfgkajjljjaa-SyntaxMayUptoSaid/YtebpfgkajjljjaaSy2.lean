/- Words that may be, by the program. The bytes of a plain word, by the program and by the document. Among texts: reserved words, by the program and by the document. -/
import Derived.Test.YtebpfgkajjljjaaSy1
namespace Go.Vm
open Go Go.Proofs Go.Sy
attribute [local simp] Oks xOps vwanted isDefer vop kindOf vpure ev evs toV andThen inBlock atTo_some Fr.dsTo Fr.glTo Fr.toNone initFr_at initFr_ds initFr_gl veff traverse tupled vresult V.undef evOpt xDraw xStep

theorem xOps_cut [Memo] {P : Program} {ops : Array Oper} (a : List Oper) : ∀ (b : List Oper) (fr : Fr) (st : St), xOps P (ihCall (W P)) none ops (a ++ b) fr st =
    match xOps P (ihCall (W P)) none ops a fr st with
    | .ok fr1 st1 => xOps P (ihCall (W P)) none ops b fr1 st1
    | r => r := by
  induction a with
  | nil => intro b fr st; rfl
  | cons o r ih =>
    intro b fr st
    simp only [List.cons_append, xOps]
    cases vwanted ops fr o with
    | false => exact ih ..
    | true =>
      cases isDefer o.op with
      | false =>
        cases vop P (ihCall (W P)) fr st o.op with
        | val v st' => exact ih ..
        | panic v st' => rfl
        | fail w => rfl
      | true =>
        generalize vdefer P fr o.op = d
        cases d with
        | none => rfl
        | some d => exact ih ..

/-- a region in two -/
theorem Oks.cut [Memo] {P : Program} {ops : Array Oper} {l : List Oper} {fr : Fr} {st : St} {Q : Fr → St → Prop} (n : Nat) (R : Fr → St → Prop) (h : Oks P ops (l.take n) fr st R)
    (k : ∀ fr' st', R fr' st' → Oks P ops (l.drop n) fr' st' Q) : Oks P ops l fr st Q := by
  unfold Oks at h ⊢
  rw [← List.take_append_drop n l, xOps_cut]
  cases hx : xOps P (ihCall (W P)) none ops (l.take n) fr st with
  | ok fr1 st1 => rw [hx] at h; exact k fr1 st1 h
  | panic v fr1 st1 => rw [hx] at h; exact h.elim
  | fail w => rw [hx] at h; exact h.elim

theorem zs33 : zeroT Try.prog 33 = some (.agg [.bool false, .str ⟨0, 0⟩, .bool false]) := by kernel_rfl

/-- a new variable that holds a part -/
def newPart (st : St) (p : Wp) : St := { ctr := st.ctr + 1, box := (st.box.put st.ctr (.cells [.bool false, .str ⟨0, 0⟩, .bool false] 33 true (some 0))).put st.ctr (.cells [.bool p.v, .str p.t, .bool p.q] 33 true (some 0)) }
theorem newPart_keep (st : St) (p : Wp) : Keep st (newPart st p) := Keep.put (id := st.ctr) ((Keep.refl st).new _) (Nat.le_refl _) _
theorem newPart_box (st : St) (p : Wp) : (newPart st p).box.get st.ctr = some (.cells [.bool p.v, .str p.t, .bool p.q] 33 true (some 0)) := by
  unfold newPart; rw [Tr.get_put, if_pos rfl]
theorem newPart_ctr (st : St) (p : Wp) : st.ctr < (newPart st p).ctr := Nat.lt_succ_self _
theorem newPart_store (st : St) (p : Wp) : vstore Try.prog { ctr := st.ctr + 1, box := st.box.put st.ctr (.cells [.bool false, .str ⟨0, 0⟩, .bool false] 33 true (some 0)) } 33 (.ptr st.ctr 0) (.agg [.bool p.v, .str p.t, .bool p.q]) = some (newPart st p) :=
  store_all z33 (by show (st.box.put st.ctr _).get st.ctr = _; rw [Tr.get_put, if_pos rfl]) rfl rfl rfl

theorem partLoads {st : St} {id : Nat} {p : Wp} (hb : st.box.get id = some (.cells [.bool p.v, .str p.t, .bool p.q] 33 true (some 0))) :
    vload Try.prog st 4 (.ptr id 0) = some (.bool p.v) ∧ vload Try.prog st 9 (.ptr id 1) = some (.str p.t) ∧ vload Try.prog st 4 (.ptr id 2) = some (.bool p.q) :=
  ⟨vload_of sa4 sz4 hb rfl, vload_of sa9 sz9 hb rfl, vload_of sa4 sz4 hb rfl⟩

theorem str_empty (s : S) : s.same (S.ofList []) = s.toList.isEmpty := by
  rw [S.same_eq, S.toList_ofList]
  cases s.toList <;> rfl

/-- what is known of the parts from a place on -/
def prevO (ks : List Pk) : Nat → Option Pk
  | 0 => none
  | i + 1 => ks[i]?

theorem chkP_at {ks : List Pk} {i : Nat} {p : Pk} (h : ks[i]? = some p) : chkP (prevO ks i) (ks.drop i) = (partOk p (decide (i = 0)) && !clashO (prevO ks i) p && chkP (prevO ks (i + 1)) (ks.drop (i + 1))) := by
  have hi : i < ks.length := (List.getElem?_eq_some_iff.1 h).1
  have hd : ks.drop i = p :: ks.drop (i + 1) := by
    rw [List.drop_eq_getElem_cons hi]
    rw [List.getElem?_eq_getElem hi] at h
    rw [Option.some.inj h]
  rw [hd, chkP]
  have hn : (prevO ks i).isNone = decide (i = 0) := by
    cases i with
    | zero => rfl
    | succ i =>
      have : i < ks.length := by omega
      simp [prevO, this]
  rw [hn, show prevO ks (i + 1) = some p from h]

variable [Memo] [NY]

/-- is the part well? -/
def OkQ (gl : Gl) (x : V) (ks : List Pk) (p : Wp) (i id1 id4 : Nat) (st2 : St) (e : AE) (fr' : Fr) (st' : St) : Prop :=
  e = AE.normal ∧ Keep st2 st' ∧ fr'.ds = [] ∧ fr'.gl = gl ∧ Fr.at fr' 1 = .ptr id1 0 ∧ Fr.at fr' 3 = .int .i64 (i : Int) ∧ Fr.at fr' 4 = .ptr id4 0 ∧ Fr.at fr' 8 = x ∧ Fr.at fr' 9 = .int .i64 (ks.length : Int) ∧ Fr.at fr' 10 = .int .i64 (i : Int) ∧ Fr.at fr' 5 = .bool (partOk p.key (decide (i = 0)))

set_option maxHeartbeats 4000000 in
theorem wMay_ok (gl : Gl) {aL : List V} (hh : Hits gl aL) (st : St) (w : V) (l : List Wp) (hx : Wv st w l) (hl : l.length < 1000000) (hs : ∀ p ∈ l, p.t.n < 4000000000000000000) :
    ∃ v st', W Try.prog (.call gl 24 [w]) st = .call (.val v st') ∧ v = .bool (mayW (l.map Wp.key)) ∧ Keep st st' := by
  obtain ⟨x, a, rfl, hx⟩ := hx
  have hk29 : callable Try.prog 29 = true := by kernel_rfl
  have hk37 : callable Try.prog 37 = true := by kernel_rfl
  have hk38 : callable Try.prog 38 = true := by kernel_rfl
  have ox := hx.one
  have oi : ∀ k n, oneC (.int k n) = true := fun _ _ => rfl
  have lx := hx.len
  refine call_ex (NY.no _ rfl rfl _ _) Try.func24 rfl (by kernel_rfl) ?_
  repeat refine Does.seq ?_
  refine Does.region ?_
  simp [valloc, V.cells, ox, oi, mkRef]
  have hk1 : Keep st { ctr := st.ctr + 1, box := st.box.put st.ctr (.cells [x, .int .i64 a] 31 true (some 0)) } := (Keep.refl st).new _
  have b1 : ({ ctr := st.ctr + 1, box := st.box.put st.ctr (.cells [x, .int .i64 a] 31 true (some 0)) } : St).box.get st.ctr = some (.cells [x, .int .i64 a] 31 true (some 0)) := by
    rw [Tr.get_put, if_pos rfl]
  have hct : st.ctr < ({ ctr := st.ctr + 1, box := st.box.put st.ctr (.cells [x, .int .i64 a] 31 true (some 0)) } : St).ctr := Nat.lt_succ_self _
  revert hk1 b1 hct
  generalize ({ ctr := st.ctr + 1, box := st.box.put st.ctr (.cells [x, .int .i64 a] 31 true (some 0)) } : St) = st1
  generalize hid1 : st.ctr = id1
  intro hk1 b1 hct
  have f1 := wf0 id1
  have hx1 := hx.keep hk1
  have hks : (l.map Wp.key).length = l.length := by simp
  have hkey : ∀ i, i < l.length → (l.map Wp.key)[i]? = some (l.getD i default).key := fun i hi => key_get l hi
  have hmay : mayW (l.map Wp.key) = (!decide (l.length = 0) && chkP none (l.map Wp.key)) := by
    unfold mayW
    congr 1
    cases l <;> simp
  have l1 := vload_of (P := Try.prog) (off := 0) sa29 sz29 b1 rfl
  generalize hK : l.map Wp.key = ks at hks hkey hmay
  rw [hmay]
  generalize hD : decide (l.length = 0) = D
  generalize hC : chkP none ks = C
  repeat refine Does.seq ?_
  refine Does.region ?_
  simp [f1, l1, lx]
  refine Does.mono (Q := fun e fr' st' => Keep st1 st' ∧ fr'.ds = [] ∧ ((e = AE.ret ∧ Fr.at fr' 2 = .bool false ∧ C = false) ∨ (e = AE.normal ∧ Fr.at fr' 1 = .ptr id1 0 ∧ C = true))) ?loop ?tail
  case tail =>
    rintro e fr' st' ⟨hk, hds, ⟨rfl, h2, hc⟩ | ⟨rfl, h1, hc⟩⟩
    · simp only [andThen]
      simp [hds, h2, hc, hk1.trans hk]
    · simp only [andThen]
      repeat refine Does.seq ?_
      refine Does.region ?_
      have l1' := vload_of (P := Try.prog) (off := 0) sa29 sz29 (show st'.box.get id1 = _ by rw [hk.box _ hct]; exact b1) rfl
      have e0 : ∀ kk, vbin Try.prog kk .gtr 3 (.int .i64 (l.length : Int)) (.int .i64 0) = some (.bool (decide (0 < l.length))) := fun kk => vI_gtr rfl
      have hd : decide (0 < l.length) = !D := by
        rw [← hD]
        by_cases h : l.length = 0
        · simp [h]
        · have : 0 < l.length := by omega
          simp [h, this]
      rw [hd] at e0
      simp [h1, f1, l1', lx, e0]
      refine Does.ret ?_
      simp [hds, hc, hk1.trans hk]
  case loop =>
    refine Does.block (Does.up l.length (fun i fr st' => Keep st1 st' ∧ fr.ds = [] ∧ fr.gl = gl ∧ Fr.at fr 1 = .ptr id1 0 ∧ Fr.at fr 8 = x ∧ Fr.at fr 9 = .int .i64 (l.length : Int) ∧ Fr.at fr 10 = .int .i64 (i : Int) ∧ i ≤ l.length ∧ chkP (prevO ks i) (ks.drop i) = C) 0 ?init ?bound ?step)
    case init => exact ⟨.refl st1, by simp, by simp, by simp, by simp, by simp, by simp, Nat.zero_le _, hC⟩
    case bound => exact fun i fr st' h => h.2.2.2.2.2.2.2.1
    case step =>
      rintro i fr st' ⟨hk, hds, hg, h1, h8, h9, h10, hi, hchk⟩
      have elen : ∀ kk, vbin Try.prog kk .lss 3 (.int .i64 (i : Int)) (.int .i64 (l.length : Int)) = some (.bool (decide (i < l.length))) := fun kk => vI_lss rfl
      repeat refine Does.seq ?_
      refine Does.region ?_
      by_cases hlt : i < l.length
      rotate_left
      · rw [decide_eq_false hlt] at elen
        simp [h9, h10, elen]
        repeat refine Does.seq ?_
        refine Does.condF (by simp) ?_
        refine Does.exit ?_
        simp only [inBlock, if_true, andThen]
        rw [List.drop_eq_nil_of_le (by omega)] at hchk
        simp only [chkP] at hchk
        exact ⟨hk, by simp [hds], .inr ⟨trivial, by simp [h1], hchk.symm⟩⟩
      · rw [decide_eq_true hlt] at elen
        obtain ⟨p, g1, g2⟩ := (hx1.keep hk).get hlt
        have gk := hkey i hlt
        have hsz : (l.getD i default).t.n < 4000000000000000000 := hs _ (by rw [List.getD_eq_getElem?_getD, List.getElem?_eq_getElem hlt]; exact List.getElem_mem hlt)
        generalize l.getD i default = ex at g2 gk hsz
        have n1 := g2.loads.1
        have i1 := g1 .i64
        simp only [Wp.cells] at n1
        have hns := newPart_store st' ex
        have z33' := zs33
        rw [chkP_at gk] at hchk
        have w1 : IntKind.i64.wrap ((i : Int) + 1) = (i : Int) + 1 := wrap_i64 (by omega) (by omega)
        simp [h9, h10, elen]
        repeat refine Does.seq ?_
        refine Does.condT (by simp) ?_
        refine Does.skip ?_
        simp
        repeat refine Does.seq ?_
        refine Does.block ?_
        repeat refine Does.seq ?_
        refine Does.region ?_
        have o33 : ([.bool false, .str ⟨0, 0⟩, .bool false] : List V).all oneC = true := rfl
        simp [h8, h10, i1, n1, valloc, z33', V.cells, oneC, mkRef, vact, hns]
        have nk := newPart_keep st' ex
        have nb := newPart_box st' ex
        have nc := newPart_ctr st' ex
        revert nk nb nc
        generalize newPart st' ex = st2
        generalize hid4 : st'.ctr = id4
        intro nk nb nc
        repeat refine Does.seq ?_
        refine Does.region ?_
        simp
        repeat refine Does.seq ?_
        obtain ⟨pl0, pl1, pl2⟩ := partLoads nb
        have t0 := pg0 id4 0
        have t1 := pg1 id4 0
        have t2 := pg2 id4 0
        simp only [Nat.zero_add] at t1 t2
        refine Does.mono (Q := OkQ gl x ks ex i id1 id4 st2) ?okb ?okt
        case okb => as_aux_lemma =>
          refine Does.block ?_
          repeat refine Does.seq ?_
          refine Does.region ?_
          simp [t0, pl0]
          repeat refine Does.seq ?_
          cases hv : ex.v with
          | true =>
            have hpo : partOk ex.key (decide (i = 0)) = paramL ex.t.toList := by simp [partOk, Wp.key, hv]
            have hc := ihCall_W (wParam gl st2 ex.t hsz)
            rw [← hpo] at hc
            refine Does.condT (by simp) ?_
            refine Does.region ?_
            simp [t1, pl1, hg, vcall_callable hk29, hc]
            exact ⟨rfl, .refl _, by simp [hds], by simp [hg], by simp [h1], by simp, by simp, by simp [h8], by simp [h9, hks], by simp [h10], by simp⟩
          | false =>
            refine Does.condF (by simp) ?_
            repeat refine Does.seq ?_
            refine Does.region ?_
            simp [t2, pl2]
            repeat refine Does.seq ?_
            cases hq : ex.q with
            | true =>
              have hpo : partOk ex.key (decide (i = 0)) = !ex.t.toList.elem 0 := by simp [partOk, Wp.key, hv, hq]
              have hc := ihCall_W (strContains1 gl st2 ex.t (S.ofList [0]) rfl)
              have h00 : ((S.ofList [0]).at 0).toUInt8 = 0 := by decide
              rw [h00] at hc
              generalize ex.t.toList.elem 0 = el at hc hpo
              refine Does.condT (by simp) ?_
              refine Does.region ?_
              simp [t1, pl1, hg, vcall_callable hk37, hc]
              exact ⟨rfl, .refl _, by simp [hds], by simp [hg], by simp [h1], by simp, by simp, by simp [h8], by simp [h9, hks], by simp [h10], by rw [hpo]; simp⟩
            | false =>
              have hpo : partOk ex.key (decide (i = 0)) = plainL ex.t.toList (decide (i = 0)) := by simp [partOk, Wp.key, hv, hq]
              obtain ⟨v, st3, hc, rfl, hk3⟩ := plain_ok gl hh st2 ex.t (decide (i = 0)) hsz
              have hc := ihCall_W hc
              rw [← hpo] at hc
              have ei : ∀ kk, vbin Try.prog kk .eql 3 (.int .i64 (i : Int)) (.int .i64 0) = some (.bool (decide (i = 0))) := fun kk => vI_eql rfl
              generalize hpb : partOk ex.key (decide (i = 0)) = pb at hc
              generalize hfi : decide (i = 0) = fi at hc ei
              refine Does.condF (by simp) ?_
              refine Does.region ?_
              simp [t1, pl1, hg, ei, vcall_callable hk38, hc]
              exact ⟨rfl, hk3, by simp [hds], by simp [hg], by simp [h1], by simp, by simp, by simp [h8], by simp [h9, hks], by simp [h10], by rw [hpb]; simp⟩
        case okt => as_aux_lemma =>
          clear hds hg h1 h8 h9 h10
          rintro e fr' st3 ⟨rfl, hk3, hds, hg, h1, h3, h4, h8, h9, h10, h5⟩
          simp only [andThen]
          repeat refine Does.seq ?_
          refine Does.region ?_
          have hkk : Keep st1 st3 := (hk.trans nk).trans hk3
          have nb3 : st3.box.get id4 = some (.cells [.bool ex.v, .str ex.t, .bool ex.q] 33 true (some 0)) := by rw [hk3.box _ nc]; exact nb
          generalize hpb : partOk ex.key (decide (i = 0)) = pb at h5 hchk
          have ei : ∀ kk, vbin Try.prog kk .eql 3 (.int .i64 (i : Int)) (.int .i64 0) = some (.bool (decide (i = 0))) := fun kk => vI_eql rfl
          cases pb with
          | false =>
            simp [h5]
            repeat refine Does.seq ?_
            refine Does.condT (by simp) ?_
            repeat refine Does.seq ?_
            refine Does.region ?_
            simp
            refine Does.ret ?_
            simp only [andThen, inBlock]
            exact ⟨hkk, by simp [hds], .inl ⟨trivial, by simp, by rw [← hchk]; rfl⟩⟩
          | true =>
            simp [h5]
            repeat refine Does.seq ?_
            refine Does.condF (by simp) ?_
            refine Does.skip ?_
            simp
            repeat refine Does.seq ?_
            refine Does.region ?_
            rw [Bool.true_and] at hchk
            cases i with
            | zero =>
              simp at ei
              simp [h3, ei]
              repeat refine Does.seq ?_
              refine Does.condT (by simp) ?_
              refine Does.exit ?_
              simp
              refine Does.region ?_
              simp at h10 w1
              simp [h10, vbin_add, w1]
              refine ⟨1, by omega, hkk, hds, hg, h1, h8, by rw [h9, hks], by simp, by omega, ?_⟩
              simpa [clashO, prevO] using hchk
            | succ j =>
              have eif : ∀ kk, vbin Try.prog kk .eql 3 (.int .i64 ((j + 1 : Nat) : Int)) (.int .i64 0) = some (.bool false) := fun kk => by rw [ei, decide_eq_false (by omega)]
              simp only [Int.natCast_add, Int.cast_ofNat_Int] at eif
              simp at h3
              have eif' : ∀ kk, vbin Try.prog kk .eql 3 (.int .i64 ((j : Int) + 1)) (.int .i64 0) = some (.bool false) := eif
              simp [h3, eif']
              repeat refine Does.seq ?_
              refine Does.condF (by simp) ?_
              refine Does.skip ?_
              simp
              repeat refine Does.seq ?_
              refine Does.region ?_
              have l1' := vload_of (P := Try.prog) (off := 0) sa29 sz29 (show st3.box.get id1 = _ by rw [hkk.box _ hct]; exact b1) rfl
              have wj : IntKind.i64.wrap (j : Int) = (j : Int) := wrap_i64 (by omega) (by omega)
              obtain ⟨pa, g3, g4⟩ := (hx1.keep hkk).get (show j < l.length by omega)
              have gj := hkey j (by omega)
              generalize l.getD j default = pr at g4 gj
              have n2 := g4.loads.1
              have i2 := g3 .i64
              simp only [Wp.cells] at n2
              have hns2 := newPart_store st3 pr
              simp at h10
              refine Oks.cont (Q := fun fr st' => st' = newPart st3 pr ∧ fr.ds = [] ∧ fr.gl = gl ∧ Fr.at fr 1 = .ptr id1 0 ∧ Fr.at fr 4 = .ptr id4 0 ∧ Fr.at fr 6 = .ptr st3.ctr 0 ∧ Fr.at fr 8 = x ∧ Fr.at fr 9 = .int .i64 (ks.length : Int) ∧ Fr.at fr 10 = .int .i64 ((j : Int) + 1)) ?r13 ?rest
              case r13 =>
                simp [h1, h3, f1, l1', vbin_sub, wj, i2, n2, valloc, z33', V.cells, oneC, mkRef, vact, hns2, hds, hg, h4, h8, h9, h10]
              case rest =>
              clear hds hg h1 h3 h4 h8 h9 h10 h5
              rintro fr st4' ⟨hst4, hds, hg, h1, h4, h6, h8, h9, h10⟩
              rw [hst4]
              clear hst4
              simp only [andThen]
              have nk2 := newPart_keep st3 pr
              have nb2 := newPart_box st3 pr
              revert nk2 nb2
              generalize newPart st3 pr = st4
              have hlt4 : id4 < st3.ctr := Nat.lt_of_lt_of_le nc hk3.ctr
              generalize st3.ctr = id6 at hlt4 h6
              intro nk2 nb2
              have hk4 : Keep st1 st4 := hkk.trans nk2
              have nb4 : st4.box.get id4 = some (.cells [.bool ex.v, .str ex.t, .bool ex.q] 33 true (some 0)) := by
                rw [nk2.box _ (Nat.lt_of_lt_of_le nc hk3.ctr)]; exact nb3
              repeat refine Does.seq ?_
              refine Does.region ?_
              obtain ⟨r0, r1, r2⟩ := partLoads nb4
              obtain ⟨s0, s1, s2⟩ := partLoads nb2
              have u0 := pg0 id6 0
              have u1 := pg1 id6 0
              have u2 := pg2 id6 0
              simp only [Nat.zero_add] at u1 u2
              have hcl : clashO (prevO ks (j + 1)) ex.key = ((ex.q == pr.q) && ((!ex.v && !pr.v) || (ex.q && (ex.t.toList.isEmpty || pr.t.toList.isEmpty)))) := by
                show clashO (ks[j]?) ex.key = _
                rw [gj]; rfl
              have eb : ∀ kk, vbin Try.prog kk .eql 4 (.bool ex.q) (.bool pr.q) = some (.bool (ex.q == pr.q)) := fun kk => vbin_beql
              have et1 := str_empty ex.t
              have et2 := str_empty pr.t
              rw [hcl] at hchk
              generalize (ex.q == pr.q) = b0 at eb hchk
              generalize ex.t.toList.isEmpty = b1' at et1 hchk
              generalize pr.t.toList.isEmpty = b2' at et2 hchk
              have fin : (b0 && ((!ex.v && !pr.v) || (ex.q && (b1' || b2')))) = false → chkP (prevO ks (j + 2)) (ks.drop (j + 2)) = C := fun hf => by
                rw [hf] at hchk
                simpa using hchk
              have bad : (b0 && ((!ex.v && !pr.v) || (ex.q && (b1' || b2')))) = true → C = false := fun hf => by rw [← hchk, hf]; rfl
              generalize ex.v = v1 at r0 fin bad
              generalize ex.q = q1 at r2 fin bad eb
              generalize pr.v = v2 at s0 fin bad
              generalize pr.q = q2 at s2 eb
              clear hchk hcl
              simp at w1
              generalize hr : ((!v1 && !v2) || (q1 && (b1' || b2'))) = r at fin bad
              generalize hu : (!v1 && !v2) = u at hr
              refine Oks.cont (Q := fun fr st' => st' = st4 ∧ Fr.at fr 71 = .bool (b0 && r) ∧ fr.ds = [] ∧ fr.gl = gl ∧ Fr.at fr 1 = .ptr id1 0 ∧ Fr.at fr 4 = .ptr id4 0 ∧ Fr.at fr 6 = .ptr id6 0 ∧ Fr.at fr 8 = x ∧ Fr.at fr 9 = .int .i64 (ks.length : Int) ∧ Fr.at fr 10 = .int .i64 ((j : Int) + 1)) ?cmp ?rest2
              case cmp => as_aux_lemma =>
                refine Oks.cut 6 (fun fr st' => st' = st4 ∧ Fr.at fr 48 = .bool b0 ∧ fr.ds = [] ∧ fr.gl = gl ∧ Fr.at fr 1 = .ptr id1 0 ∧ Fr.at fr 4 = .ptr id4 0 ∧ Fr.at fr 6 = .ptr id6 0 ∧ Fr.at fr 8 = x ∧ Fr.at fr 9 = .int .i64 (ks.length : Int) ∧ Fr.at fr 10 = .int .i64 ((j : Int) + 1)) ?c1 ?c2
                case c1 =>
                  simp only [List.take, List.take_succ_cons]
                  simp [hds, hg, h1, h4, h6, h8, h9, h10, t2, r2, u2, s2, eb]
                case c2 => as_aux_lemma =>
                clear hds hg h1 h4 h6 h8 h9 h10
                rintro fr st' ⟨hst', h48, hds, hg, h1, h4, h6, h8, h9, h10⟩
                rw [hst']
                clear hst'
                refine Oks.cut 9 (fun fr st' => st' = st4 ∧ Fr.at fr 48 = .bool b0 ∧ Fr.at fr 57 = (if b0 = true then .bool u else .tup []) ∧ fr.ds = [] ∧ fr.gl = gl ∧ Fr.at fr 1 = .ptr id1 0 ∧ Fr.at fr 4 = .ptr id4 0 ∧ Fr.at fr 6 = .ptr id6 0 ∧ Fr.at fr 8 = x ∧ Fr.at fr 9 = .int .i64 (ks.length : Int) ∧ Fr.at fr 10 = .int .i64 ((j : Int) + 1)) ?c3 ?c4
                case c3 => as_aux_lemma =>
                  cases b0 <;> cases v1 <;> cases v2 <;> simp at hu <;> subst hu <;> simp [h48, hds, hg, h1, h4, h6, h8, h9, h10, t0, r0, u0, s0]
                case c4 => as_aux_lemma =>
                clear hds hg h1 h4 h6 h8 h9 h10 h48
                rintro fr st' ⟨hst', h48, h57, hds, hg, h1, h4, h6, h8, h9, h10⟩
                rw [hst']
                clear hst'
                cases b0 with
                | false =>
                  simp only [Bool.false_eq_true, if_false] at h57
                  simp [h48, h57, hds, hg, h1, h4, h6, h8, h9, h10]
                | true =>
                  simp only [if_true] at h57
                  cases u with
                  | true => 
                    simp at hr
                    simp [h48, h57, hds, hg, h1, h4, h6, h8, h9, h10, hr]
                  | false =>
                    simp at hr
                    cases q1 <;> cases b1' <;> cases b2' <;> simp at hr <;> subst hr <;> simp [h48, h57, hds, hg, h1, h4, h6, h8, h9, h10, t1, t2, r1, r2, u1, s1, vbin_seql, et1, et2]
              case rest2 => as_aux_lemma =>
              clear hds hg h1 h4 h6 h8 h9 h10
              rintro fr st' ⟨hst', h71, hds, hg, h1, h4, h6, h8, h9, h10⟩
              rw [hst']
              clear hst'
              simp only [andThen]
              generalize hz : (b0 && r) = z at h71 fin bad
              cases z with
              | false =>
                refine Does.condF (by simp [h71]) ?_
                refine Does.skip ?_
                simp
                refine Does.region ?_
                simp [h10, vbin_add, w1]
                exact ⟨j + 2, by omega, hk4, hds, hg, h1, h8, by rw [h9, hks], by omega, by omega, fin rfl⟩
              | true =>
                refine Does.condT (by simp [h71]) ?_
                repeat refine Does.seq ?_
                refine Does.region ?_
                simp
                refine Does.ret ?_
                simp only [andThen, inBlock]
                exact ⟨hk4, by simp [hds], .inl ⟨trivial, by simp, bad rfl⟩⟩
end Go.Vm

namespace Go.Vm
open Go Go.Proofs Go.Sy
attribute [local simp] Oks xOps vwanted isDefer vop kindOf vpure ev evs toV andThen inBlock atTo_some Fr.dsTo Fr.glTo Fr.toNone initFr_at initFr_ds initFr_gl veff traverse tupled vresult V.undef evOpt xDraw xStep

def okP (l : List Wp) : Bool := l.all fun p => !p.v && !p.q
def textP (l : List Wp) : List UInt8 := l.flatMap fun p => p.t.toList
def PlainR (l : List Wp) (v : V) : Prop := ∃ s, v = .tup [.str s, .bool (okP l && !decide (l.length = 0))] ∧ (okP l = true → s.toList = textP l)

theorem textP_len (l : List Wp) : (textP l).length = (l.map fun p => p.t.n).sum := by
  induction l with
  | nil => rfl
  | cons a l ih => simp [textP] at ih ⊢

theorem take_all {l : List Wp} {i : Nat} (hi : i < l.length) : okP (l.take (i + 1)) = (okP (l.take i) && (!(l.getD i default).v && !(l.getD i default).q)) ∧ textP (l.take (i + 1)) = textP (l.take i) ++ (l.getD i default).t.toList := by
  have : l.take (i + 1) = l.take i ++ [l.getD i default] := by
    rw [List.take_add_one, List.getD_eq_getElem?_getD, List.getElem?_eq_getElem hi]; rfl
  rw [this]
  simp [okP, textP]
theorem okP_not {l : List Wp} {i : Nat} (hi : i < l.length) (h : ((l.getD i default).v || (l.getD i default).q) = true) : okP l = false := by
  cases ho : okP l with
  | false => rfl
  | true =>
    unfold okP at ho
    rw [List.all_eq_true] at ho
    have := ho (l.getD i default) (by rw [List.getD_eq_getElem?_getD, List.getElem?_eq_getElem hi]; exact List.getElem_mem hi)
    generalize l.getD i default = p at this h
    cases hv : p.v <;> cases hq : p.q <;> simp [hv, hq] at this h
theorem textP_take_le (l : List Wp) (i : Nat) : (textP (l.take i)).length ≤ (textP l).length := by
  have : textP l = textP (l.take i) ++ textP (l.drop i) := by
    unfold textP
    rw [← List.flatMap_append, List.take_append_drop]
  rw [this, List.length_append]
  omega

def PlQ (l : List Wp) (id1 : Nat) (st1 : St) (e : AE) (fr' : Fr) (st' : St) : Prop := Keep st1 st' ∧ fr'.ds = [] ∧ ((e = AE.ret ∧ Fr.at fr' 2 = .str (S.ofList []) ∧ Fr.at fr' 3 = .bool false ∧ okP l = false) ∨ (e = AE.normal ∧ Fr.at fr' 1 = .ptr id1 0 ∧ okP l = true ∧ ∃ s, Fr.at fr' 4 = .str s ∧ s.toList = textP l))

/-- a variable that holds a word -/
def newWord (st : St) (x : V) (a : Int) : St := { ctr := st.ctr + 1, box := st.box.put st.ctr (.cells [x, .int .i64 a] 31 true (some 0)) }
theorem newWord_keep (st : St) (x : V) (a : Int) : Keep st (newWord st x a) := (Keep.refl st).new _
theorem newWord_box (st : St) (x : V) (a : Int) : (newWord st x a).box.get st.ctr = some (.cells [x, .int .i64 a] 31 true (some 0)) := by unfold newWord; rw [Tr.get_put, if_pos rfl]
theorem newWord_ctr (st : St) (x : V) (a : Int) : st.ctr < (newWord st x a).ctr := Nat.lt_succ_self _

variable [Memo] [NY]

theorem wPlain_ok (gl : Gl) (st : St) (w : V) (l : List Wp) (hx : Wv st w l) (hl : l.length < 1000000) (ht : (textP l).length < 400000000) :
    ∃ v st', W Try.prog (.call gl 26 [w]) st = .call (.val v st') ∧ PlainR l v ∧ Keep st st' := by
  obtain ⟨x, a, rfl, hx⟩ := hx
  have ox := hx.one
  have oi : ∀ k n, oneC (.int k n) = true := fun _ _ => rfl
  have lx := hx.len
  have vx := veq_self x (hx.small hl)
  refine call_ex (NY.no _ rfl rfl _ _) Try.func26 rfl (by kernel_rfl) ?_
  repeat refine Does.seq ?_
  refine Does.region ?_
  simp [valloc, V.cells, ox, oi, mkRef]
  have hk1 := newWord_keep st x a
  have b1 := newWord_box st x a
  have hct := newWord_ctr st x a
  rw [show ({ ctr := st.ctr + 1, box := st.box.put st.ctr (.cells [x, .int .i64 a] 31 true (some 0)) } : St) = newWord st x a from rfl]
  revert hk1 b1 hct
  generalize newWord st x a = st1
  generalize hid1 : st.ctr = id1
  intro hk1 b1 hct
  have f1 := wf0 id1
  have hx1 := hx.keep hk1
  have l1 := vload_of (P := Try.prog) (off := 0) sa29 sz29 b1 rfl
  have z33' := zs33
  repeat refine Does.seq ?_
  refine Does.region ?_
  simp
  repeat refine Does.seq ?_
  refine Does.region ?_
  simp [f1, l1, lx]
  refine Does.mono (Q := PlQ l id1 st1) ?loop ?tail
  case tail => as_aux_lemma =>
    rintro e fr' st' ⟨hk, hds, ⟨rfl, h2, h3, ho⟩ | ⟨rfl, h1, ho, s, h4, hs⟩⟩
    · simp only [andThen]
      simp [hds, h2, h3]
      exact ⟨⟨_, by rw [ho]; rfl, fun h => by rw [ho] at h; cases h⟩, hk1.trans hk⟩
    · simp only [andThen]
      repeat refine Does.seq ?_
      refine Does.draw (b := [0, 0, 2, 6, 14, 1, 63]) (l := [0, 1, 2, 3, 4, 5, 6]) (by kernel_rfl) (by kernel_rfl) (by kernel_rfl) ?_
      have hkt := hk.tick 7
      have l1' := vload_of (P := Try.prog) (off := 0) sa29 sz29 (show ({ ctr := st'.ctr + 7, box := st'.box } : St).box.get id1 = _ by rw [hkt.box _ hct]; exact b1) rfl
      have e0 : ∀ kk, vbin Try.prog kk .gtr 3 (.int .i64 (l.length : Int)) (.int .i64 0) = some (.bool (decide (0 < l.length))) := fun kk => vI_gtr rfl
      have hd : decide (0 < l.length) = !decide (l.length = 0) := by
        by_cases h : l.length = 0
        · simp [h]
        · have : 0 < l.length := by omega
          simp [h, this]
      rw [hd] at e0
      generalize hD : decide (l.length = 0) = D at e0
      simp [sameIn, h1, h4, f1, l1', vx, lx, e0]
      refine Does.ret ?_
      simp [hds]
      exact ⟨⟨s, by rw [ho, hD]; rfl, fun _ => hs⟩, hk1.trans hkt⟩
  case loop => as_aux_lemma =>
    refine Does.block (Does.up l.length (fun i fr st' => Keep st1 st' ∧ fr.ds = [] ∧ Fr.at fr 1 = .ptr id1 0 ∧ Fr.at fr 8 = x ∧ Fr.at fr 9 = .int .i64 (l.length : Int) ∧ Fr.at fr 10 = .int .i64 (i : Int) ∧ i ≤ l.length ∧ okP (l.take i) = true ∧ ∃ s, Fr.at fr 4 = .str s ∧ s.toList = textP (l.take i)) 0 ?init ?bound ?step)
    case init => exact ⟨.refl st1, by simp, by simp, by simp, by simp, by simp, Nat.zero_le _, rfl, S.ofList [], by simp, S.toList_ofList _⟩
    case bound => exact fun i fr st' h => h.2.2.2.2.2.2.1
    case step =>
      rintro i fr st' ⟨hk, hds, h1, h8, h9, h10, hi, hok, s, h4, hs⟩
      have elen : ∀ kk, vbin Try.prog kk .lss 3 (.int .i64 (i : Int)) (.int .i64 (l.length : Int)) = some (.bool (decide (i < l.length))) := fun kk => vI_lss rfl
      repeat refine Does.seq ?_
      refine Does.region ?_
      by_cases hlt : i < l.length
      rotate_left
      · rw [decide_eq_false hlt] at elen
        simp [h9, h10, elen]
        repeat refine Does.seq ?_
        refine Does.condF (by simp) ?_
        refine Does.exit ?_
        simp only [inBlock, if_true, andThen]
        rw [List.take_of_length_le (by omega)] at hok hs
        exact ⟨hk, by simp [hds], .inr ⟨rfl, by simp [h1], hok, s, by simp [h4], hs⟩⟩
      · rw [decide_eq_true hlt] at elen
        obtain ⟨p, g1, g2⟩ := (hx1.keep hk).get hlt
        obtain ⟨q1, q2⟩ := take_all hlt
        have hnot := okP_not hlt
        have hlen2 := textP_take_le l (i + 1)
        generalize l.getD i default = ex at g2 q1 q2 hnot
        rw [q2, List.length_append, S.len] at hlen2
        have hsn : s.n = (textP (l.take i)).length := by rw [← hs, S.len]
        have n1 := g2.loads.1
        have i1 := g1 .i64
        simp only [Wp.cells] at n1
        have hns := newPart_store st' ex
        have w1 : IntKind.i64.wrap ((i : Int) + 1) = (i : Int) + 1 := wrap_i64 (by omega) (by omega)
        simp [h9, h10, elen]
        repeat refine Does.seq ?_
        refine Does.condT (by simp) ?_
        refine Does.skip ?_
        simp
        repeat refine Does.seq ?_
        refine Does.block ?_
        repeat refine Does.seq ?_
        refine Does.region ?_
        simp [h8, h10, i1, n1, valloc, z33', V.cells, oneC, mkRef, vact, hns]
        have nk := newPart_keep st' ex
        have nb := newPart_box st' ex
        revert nk nb
        generalize newPart st' ex = st2
        generalize st'.ctr = id4
        intro nk nb
        repeat refine Does.seq ?_
        refine Does.region ?_
        obtain ⟨pl0, pl1, pl2⟩ := partLoads nb
        have t0 := pg0 id4 0
        have t1 := pg1 id4 0
        have t2 := pg2 id4 0
        simp only [Nat.zero_add] at t1 t2
        cases hv : ex.v with
        | true =>
          rw [hv] at pl0
          simp [t0, pl0]
          repeat refine Does.seq ?_
          refine Does.condT (by simp) ?_
          repeat refine Does.seq ?_
          refine Does.region ?_
          simp
          refine Does.ret ?_
          simp only [andThen, inBlock]
          exact ⟨hk.trans nk, by simp [hds], .inl ⟨rfl, by simp, by simp, hnot (by rw [hv]; rfl)⟩⟩
        | false =>
          rw [hv] at pl0
          cases hq : ex.q with
          | true =>
            rw [hq] at pl2
            simp [t0, t2, pl0, pl2]
            repeat refine Does.seq ?_
            refine Does.condT (by simp) ?_
            repeat refine Does.seq ?_
            refine Does.region ?_
            simp
            refine Does.ret ?_
            simp only [andThen, inBlock]
            exact ⟨hk.trans nk, by simp [hds], .inl ⟨rfl, by simp, by simp, hnot (by rw [hq]; simp)⟩⟩
          | false =>
            rw [hq] at pl2
            simp [t0, t2, pl0, pl2]
            repeat refine Does.seq ?_
            refine Does.condF (by simp) ?_
            refine Does.skip ?_
            simp
            refine Does.region ?_
            have hadd := vbin_sadd (P := Try.prog) (kk := false) (T := 9) (x := s) (y := ex.t) (by omega)
            have htl : (s.app ex.t).toList = textP (l.take (i + 1)) := by rw [S.toList_app, hs, q2]
            generalize s.app ex.t = s2 at hadd htl
            simp [h4, t1, pl1, isK, hadd]
            refine Does.region ?_
            simp [h10, vbin_add, w1]
            exact ⟨i + 1, by omega, hk.trans nk, hds, h1, h8, h9, by simp, by omega, by rw [q1, hok, hv, hq]; rfl, htl⟩

def PlQ8 (l : List Wp) (id1 : Nat) (st1 : St) (e : AE) (fr' : Fr) (st' : St) : Prop := Keep st1 st' ∧ fr'.ds = [] ∧ ((e = AE.ret ∧ Fr.at fr' 2 = .str (S.ofList []) ∧ Fr.at fr' 3 = .bool false ∧ okP l = false) ∨ (e = AE.normal ∧ Fr.at fr' 1 = .ptr id1 0 ∧ okP l = true ∧ ∃ s, Fr.at fr' 4 = .str s ∧ s.toList = textP l))

theorem rPlain_ok (gl : Gl) (st : St) (w : V) (l : List Wp) (hx : Wv st w l) (hl : l.length < 1000000) (ht : (textP l).length < 400000000) :
    ∃ v st', W Try.prog (.call gl 32 [w]) st = .call (.val v st') ∧ PlainR l v ∧ Keep st st' := by
  obtain ⟨x, a, rfl, hx⟩ := hx
  have ox := hx.one
  have oi : ∀ k n, oneC (.int k n) = true := fun _ _ => rfl
  have lx := hx.len
  have vx := veq_self x (hx.small hl)
  refine call_ex (NY.no _ rfl rfl _ _) Try.func32 rfl (by kernel_rfl) ?_
  repeat refine Does.seq ?_
  refine Does.region ?_
  simp [valloc, V.cells, ox, oi, mkRef]
  have hk1 := newWord_keep st x a
  have b1 := newWord_box st x a
  have hct := newWord_ctr st x a
  rw [show ({ ctr := st.ctr + 1, box := st.box.put st.ctr (.cells [x, .int .i64 a] 31 true (some 0)) } : St) = newWord st x a from rfl]
  revert hk1 b1 hct
  generalize newWord st x a = st1
  generalize hid1 : st.ctr = id1
  intro hk1 b1 hct
  have f1 := wf0 id1
  have hx1 := hx.keep hk1
  repeat refine Does.seq ?_
  refine Does.region ?_
  simp
  repeat refine Does.seq ?_
  refine Does.region ?_
  simp
  refine Does.mono (Q := PlQ8 l id1 st1) ?loop ?tail
  case tail => as_aux_lemma =>
    rintro e fr' st' ⟨hk, hds, ⟨rfl, h2, h3, ho⟩ | ⟨rfl, h1, ho, s, h4, hs⟩⟩
    · simp only [andThen]
      simp [hds, h2, h3]
      exact ⟨⟨_, by rw [ho]; rfl, fun h => by rw [ho] at h; cases h⟩, hk1.trans hk⟩
    · simp only [andThen]
      repeat refine Does.seq ?_
      refine Does.draw (b := [0, 0, 2, 6, 14, 1, 63]) (l := [0, 1, 2, 3, 4, 5, 6]) (by kernel_rfl) (by kernel_rfl) (by kernel_rfl) ?_
      have hkt := hk.tick 7
      have l1' := vload_of (P := Try.prog) (off := 0) sa29 sz29 (show ({ ctr := st'.ctr + 7, box := st'.box } : St).box.get id1 = _ by rw [hkt.box _ hct]; exact b1) rfl
      have e0 : ∀ kk, vbin Try.prog kk .gtr 3 (.int .i64 (l.length : Int)) (.int .i64 0) = some (.bool (decide (0 < l.length))) := fun kk => vI_gtr rfl
      have hd : decide (0 < l.length) = !decide (l.length = 0) := by
        by_cases h : l.length = 0
        · simp [h]
        · have : 0 < l.length := by omega
          simp [h, this]
      rw [hd] at e0
      generalize hD : decide (l.length = 0) = D at e0
      simp [sameIn, h1, h4, f1, l1', vx, lx, e0]
      refine Does.ret ?_
      simp [hds]
      exact ⟨⟨s, by rw [ho, hD]; rfl, fun _ => hs⟩, hk1.trans hkt⟩
  case loop => as_aux_lemma =>
    refine Does.block (Does.up l.length (fun i fr st' => Keep st1 st' ∧ fr.ds = [] ∧ Fr.at fr 1 = .ptr id1 0 ∧ Fr.at fr 5 = .int .i64 (i : Int) ∧ i ≤ l.length ∧ okP (l.take i) = true ∧ ∃ s, Fr.at fr 4 = .str s ∧ s.toList = textP (l.take i)) 0 ?init ?bound ?step)
    case init => exact ⟨.refl st1, by simp, by simp, by simp, Nat.zero_le _, rfl, S.ofList [], by simp, S.toList_ofList _⟩
    case bound => exact fun i fr st' h => h.2.2.2.2.1
    case step =>
      rintro i fr st' ⟨hk, hds, h1, h5, hi, hok, s, h4, hs⟩
      have elen : ∀ kk, vbin Try.prog kk .lss 3 (.int .i64 (i : Int)) (.int .i64 (l.length : Int)) = some (.bool (decide (i < l.length))) := fun kk => vI_lss rfl
      have l1' := vload_of (P := Try.prog) (off := 0) sa29 sz29 (show st'.box.get id1 = _ by rw [hk.box _ hct]; exact b1) rfl
      repeat refine Does.seq ?_
      refine Does.region ?_
      by_cases hlt : i < l.length
      rotate_left
      · rw [decide_eq_false hlt] at elen
        simp [h1, h5, f1, l1', lx, elen]
        repeat refine Does.seq ?_
        refine Does.condF (by simp) ?_
        refine Does.exit ?_
        simp only [inBlock, if_true, andThen]
        rw [List.take_of_length_le (by omega)] at hok hs
        exact ⟨hk, by simp [hds], .inr ⟨rfl, by simp [h1], hok, s, by simp [h4], hs⟩⟩
      · rw [decide_eq_true hlt] at elen
        obtain ⟨p, g1, g2⟩ := (hx1.keep hk).get hlt
        obtain ⟨q1, q2⟩ := take_all hlt
        have hnot := okP_not hlt
        have hlen2 := textP_take_le l (i + 1)
        generalize l.getD i default = ex at g2 q1 q2 hnot
        rw [q2, List.length_append, S.len] at hlen2
        have hsn : s.n = (textP (l.take i)).length := by rw [← hs, S.len]
        obtain ⟨_, ⟨p0, m0, n0⟩, ⟨p1, m1, n1⟩, ⟨p2, m2, n2⟩⟩ := g2.loads
        have i1 := g1 .i64
        have w1 : IntKind.i64.wrap ((i : Int) + 1) = (i : Int) + 1 := wrap_i64 (by omega) (by omega)
        simp [h1, h5, f1, l1', lx, elen]
        repeat refine Does.seq ?_
        refine Does.condT (by simp) ?_
        refine Does.skip ?_
        simp
        repeat refine Does.seq ?_
        refine Does.block ?_
        repeat refine Does.seq ?_
        refine Does.region ?_
        cases hv : ex.v with
        | true =>
          rw [hv] at n0
          simp [h1, h5, f1, l1', i1, m0, n0]
          repeat refine Does.seq ?_
          refine Does.condT (by simp) ?_
          repeat refine Does.seq ?_
          refine Does.region ?_
          simp
          refine Does.ret ?_
          simp only [andThen, inBlock]
          exact ⟨hk, by simp [hds], .inl ⟨rfl, by simp, by simp, hnot (by rw [hv]; rfl)⟩⟩
        | false =>
          rw [hv] at n0
          cases hq : ex.q with
          | true =>
            rw [hq] at n2
            simp [h1, h5, f1, l1', i1, m0, n0, m2, n2]
            repeat refine Does.seq ?_
            refine Does.condT (by simp) ?_
            repeat refine Does.seq ?_
            refine Does.region ?_
            simp
            refine Does.ret ?_
            simp only [andThen, inBlock]
            exact ⟨hk, by simp [hds], .inl ⟨rfl, by simp, by simp, hnot (by rw [hq]; simp)⟩⟩
          | false =>
            rw [hq] at n2
            simp [h1, h5, f1, l1', i1, m0, n0, m2, n2]
            repeat refine Does.seq ?_
            refine Does.condF (by simp) ?_
            refine Does.skip ?_
            simp
            refine Does.region ?_
            have hadd := vbin_sadd (P := Try.prog) (kk := false) (T := 9) (x := s) (y := ex.t) (by omega)
            have htl : (s.app ex.t).toList = textP (l.take (i + 1)) := by rw [S.toList_app, hs, q2]
            generalize s.app ex.t = s2 at hadd htl
            simp [h1, h4, h5, f1, l1', i1, m1, n1, isK, hadd]
            refine Does.region ?_
            simp [h5, vbin_add, w1]
            exact ⟨i + 1, by omega, hk, hds, h1, by simp, by omega, by rw [q1, hok, hv, hq]; rfl, htl⟩
end Go.Vm

namespace Go.Vm
open Go Go.Proofs Go.Sy
attribute [local simp] Oks xOps vwanted isDefer vop kindOf vpure ev evs toV andThen inBlock atTo_some Fr.dsTo Fr.glTo Fr.toNone initFr_at initFr_ds initFr_gl veff traverse tupled vresult V.undef evOpt xDraw xStep

/-- the state is as it was -/
def AtSt (st st' : St) : Prop := st' = st

/-- is the text among these? -/
def memS (s : S) (l : List S) : Bool := decide (s.toList ∈ l.map S.toList)
theorem memS_take {s : S} {l : List S} {i : Nat} (hi : i < l.length) : memS s (l.take (i + 1)) = (memS s (l.take i) || s.same (l.getD i ⟨0, 0⟩)) := by
  have : l.take (i + 1) = l.take i ++ [l.getD i ⟨0, 0⟩] := by
    rw [List.take_add_one, List.getD_eq_getElem?_getD, List.getElem?_eq_getElem hi]; rfl
  rw [this]
  simp only [memS, List.map_append, List.mem_append, List.map_cons, List.map_nil, List.mem_singleton, S.same_eq]
  rw [Bool.eq_iff_iff]
  simp
theorem memS_of_take {s : S} {l : List S} {i : Nat} (h : memS s (l.take i) = true) : memS s l = true := by
  simp only [memS, decide_eq_true_eq] at h ⊢
  rw [List.map_take] at h
  exact List.mem_of_mem_take h
theorem memS_at {s : S} {l : List S} {i : Nat} (hi : i < l.length) (h : s.same (l.getD i ⟨0, 0⟩) = true) : memS s l = true :=
  memS_of_take (i := i + 1) (by rw [memS_take hi, h]; simp)
theorem same_comm (s u : S) : s.same u = u.same s := by
  rw [S.same_eq, S.same_eq, Bool.eq_iff_iff, beq_iff_eq, beq_iff_eq]; exact eq_comm

/-- reserved words -/
def resL : List (List UInt8) := [[105, 102], [116, 104, 101, 110], [101, 108, 105, 102], [101, 108, 115, 101], [102, 105], [119, 104, 105, 108, 101], [117, 110, 116, 105, 108], [100, 111], [100, 111, 110, 101], [102, 111, 114], [105, 110], [99, 97, 115, 101], [101, 115, 97, 99], [102, 117, 110, 99, 116, 105, 111, 110], [115, 101, 108, 101, 99, 116], [116, 105, 109, 101], [99, 111, 112, 114, 111, 99], [91, 91], [33], [123], [125]]
/-- those that are not supported; that are -/
def nevL : List (List UInt8) := [[99, 97, 115, 101], [102, 117, 110, 99, 116, 105, 111, 110], [115, 101, 108, 101, 99, 116], [116, 105, 109, 101], [99, 111, 112, 114, 111, 99], [91, 91]]
def supL : List (List UInt8) := [[105, 102], [116, 104, 101, 110], [101, 108, 105, 102], [101, 108, 115, 101], [102, 105], [119, 104, 105, 108, 101], [117, 110, 116, 105, 108], [100, 111], [100, 111, 110, 101], [102, 111, 114], [105, 110], [101, 115, 97, 99], [33], [123], [125]]
theorem bs21 : vbuildSlice Try.prog 54 21 [(0, .str (S.ofList [105, 102])), (1, .str (S.ofList [116, 104, 101, 110])), (2, .str (S.ofList [101, 108, 105, 102])), (3, .str (S.ofList [101, 108, 115, 101])), (4, .str (S.ofList [102, 105])), (5, .str (S.ofList [119, 104, 105, 108, 101])), (6, .str (S.ofList [117, 110, 116, 105, 108])), (7, .str (S.ofList [100, 111])), (8, .str (S.ofList [100, 111, 110, 101])), (9, .str (S.ofList [102, 111, 114])), (10, .str (S.ofList [105, 110])), (11, .str (S.ofList [99, 97, 115, 101])), (12, .str (S.ofList [101, 115, 97, 99])), (13, .str (S.ofList [102, 117, 110, 99, 116, 105, 111, 110])), (14, .str (S.ofList [115, 101, 108, 101, 99, 116])), (15, .str (S.ofList [116, 105, 109, 101])), (16, .str (S.ofList [99, 111, 112, 114, 111, 99])), (17, .str (S.ofList [91, 91])), (18, .str (S.ofList [33])), (19, .str (S.ofList [123])), (20, .str (S.ofList [125]))] = some ((resL.map S.ofList).map .str, 9, 1) := by kernel_rfl
theorem bs6 : vbuildSlice Try.prog 54 6 [(0, .str (S.ofList [99, 97, 115, 101])), (1, .str (S.ofList [102, 117, 110, 99, 116, 105, 111, 110])), (2, .str (S.ofList [115, 101, 108, 101, 99, 116])), (3, .str (S.ofList [116, 105, 109, 101])), (4, .str (S.ofList [99, 111, 112, 114, 111, 99])), (5, .str (S.ofList [91, 91]))] = some ((nevL.map S.ofList).map .str, 9, 1) := by kernel_rfl
theorem bs15 : vbuildSlice Try.prog 54 15 [(0, .str (S.ofList [105, 102])), (1, .str (S.ofList [116, 104, 101, 110])), (2, .str (S.ofList [101, 108, 105, 102])), (3, .str (S.ofList [101, 108, 115, 101])), (4, .str (S.ofList [102, 105])), (5, .str (S.ofList [119, 104, 105, 108, 101])), (6, .str (S.ofList [117, 110, 116, 105, 108])), (7, .str (S.ofList [100, 111])), (8, .str (S.ofList [100, 111, 110, 101])), (9, .str (S.ofList [102, 111, 114])), (10, .str (S.ofList [105, 110])), (11, .str (S.ofList [101, 115, 97, 99])), (12, .str (S.ofList [33])), (13, .str (S.ofList [123])), (14, .str (S.ofList [125]))] = some ((supL.map S.ofList).map .str, 9, 1) := by kernel_rfl

theorem memS_of (s : S) (L : List (List UInt8)) : memS s (L.map S.ofList) = decide (s.toList ∈ L) := by
  unfold memS
  rw [List.map_map]
  congr 2
  have : S.toList ∘ S.ofList = id := by funext l; exact S.toList_ofList l
  rw [this, List.map_id]

theorem resL_eq (t : List UInt8) : decide (t ∈ resL) = (decide (t ∈ nevL) || decide (t ∈ supL)) := by
  rw [Bool.eq_iff_iff]
  simp only [Bool.or_eq_true, decide_eq_true_eq]
  constructor
  · intro h
    have h3 : ∀ u ∈ resL, u ∈ nevL ∨ u ∈ supL := by decide +kernel
    exact h3 t h
  · have h1 : ∀ u ∈ nevL, u ∈ resL := by decide +kernel
    have h2 : ∀ u ∈ supL, u ∈ resL := by decide +kernel
    rintro (h | h)
    · exact h1 t h
    · exact h2 t h

/-- new memory of texts -/
def newTexts (st : St) (l : List S) : St := { ctr := st.ctr + 1, box := st.box.put st.ctr (.cells (l.map .str) 9 true (some 0)) }
theorem newTexts_keep (st : St) (l : List S) : Keep st (newTexts st l) := (Keep.refl st).new _
theorem newTexts_vw (st : St) (l : List S) : Vw (newTexts st l) (.ms st.ctr 0 l.length 1 (some l.length)) l := by
  refine .ms st.ctr 0 (some l.length) (l.map .str) 9 true (some 0) l (by unfold newTexts; rw [Tr.get_put, if_pos rfl]) (fun i hi => ?_) (by simp) (Nat.lt_succ_self _) (by simp [capLe, ble_self])
  simp [List.getElem?_map, List.getD_eq_getElem?_getD, hi]

theorem all_str (l : List S) : (l.map V.str).all oneC = true := by simp [oneC]

variable [Memo] [NY]

/-- slices.Index -/
theorem slIndex_ok (gl : Gl) (st : St) (x : V) (l : List S) (s : S) (hx : Vw st x l) (hl : l.length < 1000000) :
    ∃ v st', W Try.prog (.call gl 53 [x, .str s]) st = .call (.val v st') ∧ st' = st ∧ ∃ r : Int, v = .int .i64 r ∧ decide (0 ≤ r) = memS s l := by
  have lx := hx.len Try.underlying54
  refine call_ex (NY.no _ rfl rfl _ _) Try.func53 rfl (by kernel_rfl) ?_
  repeat refine Does.seq ?_
  refine Does.region ?_
  simp
  repeat refine Does.seq ?_
  refine Does.region ?_
  simp [lx]
  refine Does.mono (Q := fun e fr' st' => AtSt st st' ∧ fr'.ds = [] ∧ ((e = AE.ret ∧ (∃ r : Nat, Fr.at fr' 4 = .int .i64 (r : Int)) ∧ memS s l = true) ∨ (e = AE.normal ∧ memS s l = false))) ?loop ?tail
  case tail =>
    rintro e fr' st' ⟨rfl, hds, ⟨rfl, ⟨r, h4⟩, hm⟩ | ⟨rfl, hm⟩⟩
    · simp [hds, h4, hm]
    · simp only [andThen]
      repeat refine Does.seq ?_
      refine Does.region ?_
      simp
      refine Does.ret ?_
      simp [hds, hm]
  case loop =>
    refine Does.block (Does.up l.length (fun i fr st' => AtSt st st' ∧ fr.ds = [] ∧ Fr.at fr 0 = x ∧ Fr.at fr 1 = .str s ∧ Fr.at fr 7 = .int .i64 (l.length : Int) ∧ Fr.at fr 8 = .int .i64 (i : Int) ∧ i ≤ l.length ∧ memS s (l.take i) = false) 0 ?init ?bound ?step)
    case init => exact ⟨rfl, by simp, by simp, by simp, by simp, by simp, Nat.zero_le _, by simp [memS]⟩
    case bound => exact fun i fr st' h => h.2.2.2.2.2.2.1
    case step =>
      rintro i fr st' ⟨rfl, hds, h0, h1, h7, h8, hi, hm⟩
      have elen : ∀ kk, vbin Try.prog kk .lss 3 (.int .i64 (i : Int)) (.int .i64 (l.length : Int)) = some (.bool (decide (i < l.length))) := fun kk => vI_lss rfl
      repeat refine Does.seq ?_
      refine Does.region ?_
      by_cases hlt : i < l.length
      rotate_left
      · rw [decide_eq_false hlt] at elen
        simp [h7, h8, elen]
        repeat refine Does.seq ?_
        refine Does.condF (by simp) ?_
        refine Does.exit ?_
        simp only [inBlock, if_true, andThen]
        rw [List.take_of_length_le (by omega)] at hm
        exact ⟨rfl, by simp [hds], .inr ⟨trivial, hm⟩⟩
      · rw [decide_eq_true hlt] at elen
        obtain ⟨p, g1, g2⟩ := hx.get (k := .i64) Try.underlying54 sz9 sa9 hlt
        have hq := memS_take (s := s) hlt
        have ht := memS_at (s := s) hlt
        generalize l.getD i ⟨0, 0⟩ = ex at g2 hq ht
        have w1 : IntKind.i64.wrap ((i : Int) + 1) = (i : Int) + 1 := wrap_i64 (by omega) (by omega)
        simp [h7, h8, elen]
        repeat refine Does.seq ?_
        refine Does.condT (by simp) ?_
        refine Does.skip ?_
        simp
        repeat refine Does.seq ?_
        refine Does.block ?_
        repeat refine Does.seq ?_
        refine Does.region ?_
        simp [h8]
        repeat refine Does.seq ?_
        refine Does.region ?_
        have hb : ∀ kk, vbin Try.prog kk .eql 9 (.str s) (.str ex) = some (.bool (s.same ex)) := fun kk => vbin_seql
        generalize s.same ex = b at hb hq ht
        simp [h0, h1, g1, g2, hb]
        repeat refine Does.seq ?_
        cases b with
        | true =>
          refine Does.condT (by simp) ?_
          repeat refine Does.seq ?_
          refine Does.region ?_
          simp
          refine Does.ret ?_
          simp only [andThen, inBlock]
          exact ⟨rfl, by simp [hds], .inl ⟨trivial, ⟨i, by simp⟩, ht rfl⟩⟩
        | false =>
          refine Does.condF (by simp) ?_
          refine Does.skip ?_
          simp
          refine Does.region ?_
          simp [h8, vbin_add, w1]
          exact ⟨i + 1, by omega, rfl, hds, h0, h1, h7, by simp, by omega, by rw [hq, hm]; rfl⟩

/-- slices.Contains -/
theorem slContains_ok (gl : Gl) (st : St) (x : V) (l : List S) (s : S) (hx : Vw st x l) (hl : l.length < 1000000) :
    W Try.prog (.call gl 42 [x, .str s]) st = .call (.val (.bool (memS s l)) st) := by
  have hk : callable Try.prog 53 = true := by kernel_rfl
  obtain ⟨v, st', hc, rfl, r, rfl, hr⟩ := slIndex_ok gl st x l s hx hl
  have hc := ihCall_W hc
  have e0 : ∀ kk, vbin Try.prog kk .geq 3 (.int .i64 r) (.int .i64 0) = some (.bool (decide (r ≥ 0))) := fun kk => vbin_geq
  rw [show decide (r ≥ 0) = memS s l from hr] at e0
  refine call_does (NY.no _ rfl rfl _ _) Try.func42 rfl (by kernel_rfl) ?_
  repeat refine Does.seq ?_
  refine Does.region ?_
  simp
  repeat refine Does.seq ?_
  refine Does.region ?_
  simp [vcall_callable hk, hc, e0]
  refine Does.ret ?_
  simp [Try.f42]

/-- the document's among -/
theorem among_ok (gl : Gl) (st : St) (x : V) (l : List S) (s : S) (hx : Vw st x l) (hl : l.length < 1000000) :
    W Try.prog (.call gl 46 [.str s, x]) st = .call (.val (.bool (memS s l)) st) := by
  have lx := hx.len Try.underlying54
  refine call_does (NY.no _ rfl rfl _ _) Try.func46 rfl (by kernel_rfl) ?_
  repeat refine Does.seq ?_
  refine Does.region ?_
  simp
  repeat refine Does.seq ?_
  refine Does.region ?_
  simp
  refine Does.mono (Q := fun e fr' st' => AtSt st st' ∧ fr'.ds = [] ∧ ((e = AE.ret ∧ Fr.at fr' 4 = .bool true ∧ memS s l = true) ∨ (e = AE.normal ∧ memS s l = false))) ?loop ?tail
  case tail =>
    rintro e fr' st' ⟨rfl, hds, ⟨rfl, h4, hm⟩ | ⟨rfl, hm⟩⟩
    · simp [hds, h4, hm, Try.f46]
    · simp only [andThen]
      repeat refine Does.seq ?_
      refine Does.region ?_
      simp
      refine Does.ret ?_
      simp [hds, hm, Try.f46]
  case loop =>
    refine Does.block (Does.up l.length (fun i fr st' => AtSt st st' ∧ fr.ds = [] ∧ Fr.at fr 0 = .str s ∧ Fr.at fr 1 = x ∧ Fr.at fr 5 = .int .i64 (i : Int) ∧ i ≤ l.length ∧ memS s (l.take i) = false) 0 ?init ?bound ?step)
    case init => exact ⟨rfl, by simp, by simp, by simp, by simp, Nat.zero_le _, by simp [memS]⟩
    case bound => exact fun i fr st' h => h.2.2.2.2.2.1
    case step =>
      rintro i fr st' ⟨rfl, hds, h0, h1, h5, hi, hm⟩
      have elen : ∀ kk, vbin Try.prog kk .lss 3 (.int .i64 (i : Int)) (.int .i64 (l.length : Int)) = some (.bool (decide (i < l.length))) := fun kk => vI_lss rfl
      repeat refine Does.seq ?_
      refine Does.region ?_
      by_cases hlt : i < l.length
      rotate_left
      · rw [decide_eq_false hlt] at elen
        simp [h1, h5, lx, elen]
        repeat refine Does.seq ?_
        refine Does.condF (by simp) ?_
        refine Does.exit ?_
        simp only [inBlock, if_true, andThen]
        rw [List.take_of_length_le (by omega)] at hm
        exact ⟨rfl, by simp [hds], .inr ⟨trivial, hm⟩⟩
      · rw [decide_eq_true hlt] at elen
        obtain ⟨p, g1, g2⟩ := hx.get (k := .i64) Try.underlying54 sz9 sa9 hlt
        have hq := memS_take (s := s) hlt
        have ht := memS_at (s := s) hlt
        generalize l.getD i ⟨0, 0⟩ = ex at g2 hq ht
        have w1 : IntKind.i64.wrap ((i : Int) + 1) = (i : Int) + 1 := wrap_i64 (by omega) (by omega)
        simp [h1, h5, lx, elen]
        repeat refine Does.seq ?_
        refine Does.condT (by simp) ?_
        refine Does.skip ?_
        simp
        repeat refine Does.seq ?_
        refine Does.block ?_
        repeat refine Does.seq ?_
        refine Does.region ?_
        have hb : ∀ kk, vbin Try.prog kk .eql 9 (.str ex) (.str s) = some (.bool (s.same ex)) := fun kk => by rw [same_comm]; exact vbin_seql
        generalize s.same ex = b at hb hq ht
        simp [h0, h1, h5, g1, g2, hb]
        repeat refine Does.seq ?_
        cases b with
        | true =>
          refine Does.condT (by simp) ?_
          repeat refine Does.seq ?_
          refine Does.region ?_
          simp
          refine Does.ret ?_
          simp only [andThen, inBlock]
          exact ⟨rfl, by simp [hds], .inl ⟨trivial, by simp, ht rfl⟩⟩
        | false =>
          refine Does.condF (by simp) ?_
          refine Does.skip ?_
          simp
          refine Does.region ?_
          simp [h5, vbin_add, w1]
          exact ⟨i + 1, by omega, rfl, hds, h0, h1, by simp, by omega, by rw [hq, hm]; rfl⟩



theorem wReserved (gl : Gl) (st : St) (s : S) :
    ∃ v st', W Try.prog (.call gl 28 [.str s]) st = .call (.val v st') ∧ v = .bool (decide (s.toList ∈ resL)) ∧ Keep st st' := by
  have hk42 : callable Try.prog 42 = true := by kernel_rfl
  have hc := ihCall_W (slContains_ok gl (newTexts st (resL.map S.ofList)) (.ms st.ctr 0 21 1 (some 21)) (resL.map S.ofList) s (newTexts_vw st _) (by rw [List.length_map]; show (21 : Nat) < 1000000; omega))
  rw [memS_of] at hc
  have hb := bs21
  have hk := newTexts_keep st (resL.map S.ofList)
  have ha := all_str (resL.map S.ofList)
  unfold newTexts at hk hc
  generalize resL.map S.ofList = L at hb hk hc ha
  generalize decide (s.toList ∈ resL) = r at hc
  refine call_ex (NY.no _ rfl rfl _ _) Try.func28 rfl (by kernel_rfl) ?_
  repeat refine Does.seq ?_
  refine Does.region ?_
  simp
  repeat refine Does.seq ?_
  refine Does.region ?_
  simp [valloc, mkRef, evParts, hb, ha, vcall_callable hk42, hc]
  refine Does.ret ?_
  simp [hk]

theorem never_ok (gl : Gl) (st : St) (s : S) :
    ∃ v st', W Try.prog (.call gl 45 [.str s]) st = .call (.val v st') ∧ v = .bool (decide (s.toList ∈ nevL)) ∧ Keep st st' := by
  have hk46 : callable Try.prog 46 = true := by kernel_rfl
  have hc := ihCall_W (among_ok gl (newTexts st (nevL.map S.ofList)) (.ms st.ctr 0 6 1 (some 6)) (nevL.map S.ofList) s (newTexts_vw st _) (by rw [List.length_map]; show (6 : Nat) < 1000000; omega))
  rw [memS_of] at hc
  have hb := bs6
  have hk := newTexts_keep st (nevL.map S.ofList)
  have ha := all_str (nevL.map S.ofList)
  unfold newTexts at hk hc
  generalize nevL.map S.ofList = L at hb hk hc ha
  generalize decide (s.toList ∈ nevL) = r at hc
  refine call_ex (NY.no _ rfl rfl _ _) Try.func45 rfl (by kernel_rfl) ?_
  repeat refine Does.seq ?_
  refine Does.region ?_
  simp
  repeat refine Does.seq ?_
  refine Does.region ?_
  simp [valloc, mkRef, evParts, hb, ha, vcall_callable hk46, hc]
  refine Does.ret ?_
  simp [hk]

theorem rReserved (gl : Gl) (st : St) (s : S) :
    ∃ v st', W Try.prog (.call gl 34 [.str s]) st = .call (.val v st') ∧ v = .bool (decide (s.toList ∈ resL)) ∧ Keep st st' := by
  have hk46 : callable Try.prog 46 = true := by kernel_rfl
  have hk45 : callable Try.prog 45 = true := by kernel_rfl
  rw [resL_eq]
  obtain ⟨v, st1, h1, rfl, hk1⟩ := never_ok gl st s
  have h1 := ihCall_W h1
  have hc := ihCall_W (among_ok gl (newTexts st1 (supL.map S.ofList)) (.ms st1.ctr 0 15 1 (some 15)) (supL.map S.ofList) s (newTexts_vw st1 _) (by rw [List.length_map]; show (15 : Nat) < 1000000; omega))
  rw [memS_of] at hc
  have hb := bs15
  have hk := newTexts_keep st1 (supL.map S.ofList)
  have ha := all_str (supL.map S.ofList)
  unfold newTexts at hk hc
  generalize supL.map S.ofList = L at hb hk hc ha
  generalize decide (s.toList ∈ nevL) = q at h1
  generalize decide (s.toList ∈ supL) = r at hc
  refine call_ex (NY.no _ rfl rfl _ _) Try.func34 rfl (by kernel_rfl) ?_
  repeat refine Does.seq ?_
  refine Does.region ?_
  simp
  repeat refine Does.seq ?_
  refine Does.region ?_
  cases q with
  | true =>
    simp [vcall_callable hk45, h1]
    refine Does.ret ?_
    simp [hk1]
  | false =>
    simp [valloc, mkRef, evParts, hb, ha, vcall_callable hk46, vcall_callable hk45, h1, hc]
    refine Does.ret ?_
    simp [hk1.trans hk]
end Go.Vm
