/- The operators: the one that stands there, by the program and by the document. -/
import Derived.Test.YtedkiipdgffoaaaDoorLxA
namespace Go.Vm
open Go Go.Proofs Go.Lx
attribute [local simp] Oks xOps vwanted isDefer vop kindOf vpure ev evs toV andThen inBlock atTo_some Fr.dsTo Fr.glTo Fr.toNone initFr_at initFr_ds initFr_gl veff traverse tupled vresult V.undef evOpt

def opsS : List S := opsL.map S.ofList
theorem opsS_len : opsS.length = 12 := by rfl
theorem opsS_get {i : Nat} : (opsS.getD i ⟨0, 0⟩).toList = opsL.getD i [] := by
  unfold opsS
  rw [List.getD_eq_getElem?_getD, List.getElem?_map, List.getD_eq_getElem?_getD]
  cases opsL[i]? with
  | none => rfl
  | some o => simp
theorem opsS_n {i : Nat} : (opsS.getD i ⟨0, 0⟩).n ≤ 2 := by
  have : ∀ l ∈ opsL, l.length ≤ 2 := by decide
  rw [← S.len, opsS_get, List.getD_eq_getElem?_getD]
  cases h : opsL[i]? with
  | none => simp
  | some o => exact this o (List.mem_of_getElem? h)

theorem u36 : Tryd.prog.underlying 36 = some (.slice 9) := Tryd.underlying36
theorem z9 : sizeT Tryd.prog 9 = some 1 := by kernel_rfl
theorem a9 : isAggT Tryd.prog 9 = some false := by kernel_rfl
theorem z3 : sizeT Tryd.prog 3 = some 1 := by kernel_rfl
theorem a3 : isAggT Tryd.prog 3 = some false := by kernel_rfl

def opInt (o : Option Nat) : Int :=
  match o with
  | some i => (i : Int)
  | none => -1

theorem opIx_at {r : List UInt8} {i : Nat} (hi : i < 12) (hp : (opsL.getD i []).isPrefixOf r = true) (hn : ∀ j, j < i → (opsL.getD j []).isPrefixOf r = false) : opIx r = some i := by
  unfold opIx
  rw [List.findIdx?_eq_some_iff_getElem]
  have g : ∀ j (h : j < opsL.length), opsL[j]'h = opsL.getD j [] := fun j h => by
    rw [List.getD_eq_getElem?_getD, List.getElem?_eq_getElem h]; rfl
  refine ⟨hi, ?_, fun j hj => ?_⟩
  · have h := hp
    rw [← g i hi] at h; exact h
  · have h := hn j hj
    rw [← g j (Nat.lt_trans hj hi)] at h
    exact fun h' => by rw [h] at h'; cases h'
theorem opIx_no {r : List UInt8} (hn : ∀ j, j < 12 → (opsL.getD j []).isPrefixOf r = false) : opIx r = none := by
  unfold opIx
  rw [List.findIdx?_eq_none_iff]
  intro o ho
  obtain ⟨j, hj, rfl⟩ := List.getElem_of_mem ho
  have := hn j hj
  rw [List.getD_eq_getElem?_getD, List.getElem?_eq_getElem hj] at this
  simpa using this

variable [Memo] [NL]

theorem clo_ok (gl : Gl) (st : St) (o r : S) (id : Nat) (e : TypeId) (fl : Bool) (fz : Option Nat) (hb : st.box.get id = some (.cells [.str r] e fl fz)) :
    W Tryd.prog (.call gl 24 [.str o, .ptr id 0]) st = .call (.val (.bool (o.toList.isPrefixOf r.toList)) st) := by
  have hc := ihCall_W (strings_prefix gl st r o)
  have hk : callable Tryd.prog 25 = true := by kernel_rfl
  have hl := vload_of (P := Tryd.prog) (off := 0) a9 z9 hb rfl
  refine call_does (NL.no _ rfl _ _) Tryd.func24 rfl (by kernel_rfl) ?_
  refine Does.seq (Does.region ?_)
  simp
  refine Does.seq (Does.region ?_)
  simp [vcall_callable hk, hc, hl]
  refine Does.ret ?_
  simp [Tryd.f24]

/-- slices.IndexFunc over the operators -/
theorem indexFunc_ok (gl : Gl) (st : St) (r : S) (id : Nat) (e : TypeId) (fl : Bool) (fz : Option Nat) (hb : st.box.get id = some (.cells [.str r] e fl fz)) (ex : Bool) :
    W Tryd.prog (.call gl 23 [.sl 12 (opsS.map .str) ex, .fn 24 [] [.ptr id 0]]) st = .call (.val (.int .i64 (opInt (opIx r.toList))) st) := by
  have hk : callable Tryd.prog 24 = true := by kernel_rfl
  have hv : Vw st (.sl 12 (opsS.map .str) ex) opsS := .sl opsS ex
  have hlen := hv.len Tryd.underlying36
  rw [opsS_len] at hlen
  refine call_does (NL.no _ rfl _ _) Tryd.func23 rfl (by kernel_rfl) ?_
  refine Does.seq (Does.region ?_)
  simp
  refine Does.seq (Does.seq (Does.region ?_))
  simp [hlen]
  refine Does.mono (Q := fun e fr' st' => st' = st ∧ fr'.ds = [] ∧ ((e = AE.ret ∧ Fr.at fr' 4 = .int .i64 (opInt (opIx r.toList))) ∨ (e = AE.normal ∧ opIx r.toList = none))) ?loop ?tail
  case tail =>
    rintro e fr' st' ⟨rfl, hds, ⟨rfl, h4⟩ | ⟨rfl, hn⟩⟩
    · simp [hds, h4, Tryd.f23]
    · simp
      refine Does.seq (Does.region ?_)
      simp
      refine Does.ret ?_
      simp [hds, hn, opInt, Tryd.f23]
  case loop =>
    refine Does.block (Does.up 12 (fun i fr st' => st' = st ∧ fr.ds = [] ∧ fr.gl = gl ∧ i ≤ 12 ∧ Fr.at fr 0 = .sl 12 (opsS.map .str) ex ∧ Fr.at fr 1 = .fn 24 [] [.ptr id 0] ∧ Fr.at fr 7 = .int .i64 12 ∧ Fr.at fr 8 = .int .i64 (i : Int) ∧ ∀ j, j < i → (opsL.getD j []).isPrefixOf r.toList = false) 0 ?init ?bound ?step)
    case init => simp
    case bound => exact fun i fr st' h => h.2.2.2.1
    case step =>
      rintro i fr st' ⟨rfl, hds, hgl, hi, h0, h1, h7, h8, hn⟩
      repeat refine Does.seq ?_
      refine Does.region ?_
      by_cases hlt : i < 12
      · have hlt' : (i : Int) < 12 := by omega
        simp [h7, h8, vbin_lss, hlt']
        repeat refine Does.seq ?_
        refine Does.condT (by simp) ?_
        refine Does.skip ?_
        simp
        repeat refine Does.seq ?_
        refine Does.block ?_
        repeat refine Does.seq ?_
        refine Does.region ?_
        simp [h8]
        repeat refine Does.seq ?_
        refine Does.region ?_
        obtain ⟨a, ha1, ha2⟩ := hv.get (P := Tryd.prog) (k := .i64) Tryd.underlying36 z9 a9 (i := i) (by rw [opsS_len]; exact hlt)
        have hc := ihCall_W (clo_ok gl st' (opsS.getD i ⟨0, 0⟩) r id e fl fz hb)
        rw [opsS_get] at hc
        generalize hp : (opsL.getD i []).isPrefixOf r.toList = b at hc
        generalize hog : opsS.getD i ⟨0, 0⟩ = o at ha2 hc
        simp [h0, h1, h8, hgl, ha1, ha2, vcall_callable hk, hc]
        repeat refine Does.seq ?_
        refine Does.cond (c := b) (by simp) (fun hbt => ?_) (fun hbf => ?_)
        · subst hbt
          refine Does.seq (Does.region ?_)
          simp
          refine Does.ret ?_
          simp [hds]
          rw [opIx_at hlt hp hn]; rfl
        · subst hbf
          refine Does.skip ?_
          simp
          refine Does.region ?_
          have hw : IntKind.i64.wrap ((i : Int) + 1) = (i : Int) + 1 := wrap_i64 (by omega) (by omega)
          simp [h8, vbin_add, hw]
          refine ⟨i + 1, by omega, hds, hgl, by omega, h0, h1, h7, by simp, fun j hj => ?_⟩
          by_cases hj' : j = i
          · rw [hj']; exact hp
          · exact hn j (by omega)
      · have hlt' : ¬ (i : Int) < 12 := by omega
        simp [h7, h8, vbin_lss, hlt']
        repeat refine Does.seq ?_
        refine Does.condF (by simp) ?_
        refine Does.exit ?_
        simp [hds]
        exact opIx_no fun j hj => hn j (by omega)

/-- the document's op -/
theorem op_ok (gl : Gl) (st : St) (s : S) (i : Nat) (hi : i ≤ s.n) (hs : s.n < 1000000) :
    ∃ v st', W Tryd.prog (.call gl 18 [.str s, .int .i64 (i : Int)]) st = .call (.val v st') ∧ ∃ o, v = .str o ∧ o.toList = opTx (s.toList.drop i) ∧ Keep st st' := by
  have hk : callable Tryd.prog 15 = true := by kernel_rfl
  have hbs : vbuildSlice Tryd.prog 36 12 [(0, .str (S.ofList [38, 38])), (1, .str (S.ofList [124, 124])), (2, .str (S.ofList [59, 59])), (3, .str (S.ofList [60, 60])), (4, .str (S.ofList [62, 62])), (5, .str (S.ofList [59])), (6, .str (S.ofList [38])), (7, .str (S.ofList [124])), (8, .str (S.ofList [60])), (9, .str (S.ofList [62])), (10, .str (S.ofList [40])), (11, .str (S.ofList [41]))] = some (opsS.map .str, 9, 1) := by kernel_rfl
  refine call_ex (NL.no _ rfl _ _) Tryd.func18 rfl (by kernel_rfl) ?_
  refine Does.seq (Does.region ?_)
  simp
  refine Does.seq (Does.region ?_)
  have hall : (opsS.map V.str).all oneC = true := by simp [oneC]
  simp [valloc, evParts, hbs, hall, mkRef]
  have hvn : Vw { ctr := st.ctr + 1, box := st.box.put st.ctr (.cells (opsS.map .str) 9 true (some 0)) } (.ms st.ctr 0 12 1 (some 12)) opsS := by
    refine .ms st.ctr 0 (some 12) (opsS.map .str) 9 true (some 0) opsS (by simp [Tr.get_put]) (fun i hi => ?_) (by simp) (Nat.lt_succ_self _) (by rfl)
    simp [List.getElem?_map, List.getD_eq_getElem?_getD, hi]
  have hkp : Keep st { ctr := st.ctr + 1, box := st.box.put st.ctr (.cells (opsS.map .str) 9 true (some 0)) } := (Keep.refl st).new _
  revert hvn hkp
  generalize ({ ctr := st.ctr + 1, box := st.box.put st.ctr (.cells (opsS.map .str) 9 true (some 0)) } : St) = st1
  intro hvn hkp
  have hlen := hvn.len Tryd.underlying36
  rw [opsS_len] at hlen
  refine Does.seq (Does.seq (Does.region ?_))
  simp
  refine Does.mono (Q := fun e fr' st' => st' = st1 ∧ fr'.ds = [] ∧ ((e = AE.ret ∧ ∃ o, Fr.at fr' 4 = .str o ∧ o.toList = opTx (s.toList.drop i)) ∨ (e = AE.normal ∧ opIx (s.toList.drop i) = none))) ?loop ?tail
  case tail =>
    rintro e fr' st' ⟨rfl, hds, ⟨rfl, o, h4, ho⟩ | ⟨rfl, hn⟩⟩
    · exact ⟨.inl rfl, hds, o, h4, ho, hkp⟩
    · simp
      refine Does.seq (Does.region ?_)
      simp
      refine Does.ret ?_
      simp [hds, opTx, hn, hkp]
  case loop =>
    refine Does.block (Does.up 12 (fun k fr st' => st' = st1 ∧ fr.ds = [] ∧ fr.gl = gl ∧ k ≤ 12 ∧ Fr.at fr 0 = .str s ∧ Fr.at fr 1 = .int .i64 (i : Int) ∧ Fr.at fr 5 = .ms st.ctr 0 12 1 (some 12) ∧ Fr.at fr 6 = .int .i64 (k : Int) ∧ ∀ j, j < k → (opsL.getD j []).isPrefixOf (s.toList.drop i) = false) 0 ?init ?bound ?step)
    case init => simp
    case bound => exact fun i fr st' h => h.2.2.2.1
    case step =>
      rintro k fr st' ⟨rfl, hds, hgl, hk12, h0, h1, h5, h6, hn⟩
      repeat refine Does.seq ?_
      refine Does.region ?_
      by_cases hlt : k < 12
      · have hlt' : (k : Int) < 12 := by omega
        simp [h5, h6, hlen, vbin_lss, hlt']
        repeat refine Does.seq ?_
        refine Does.condT (by simp) ?_
        refine Does.skip ?_
        simp
        repeat refine Does.seq ?_
        refine Does.block ?_
        repeat refine Does.seq ?_
        refine Does.region ?_
        obtain ⟨a, ha1, ha2⟩ := hvn.get (P := Tryd.prog) (k := .i64) Tryd.underlying36 z9 a9 (i := k) (by rw [opsS_len]; exact hlt)
        have hc := ihCall_W (is_ok gl st' s i (opsS.getD k ⟨0, 0⟩) hi hs (by have := opsS_n (i := k); omega))
        rw [opsS_get] at hc
        generalize hp : (opsL.getD k []).isPrefixOf (s.toList.drop i) = b at hc
        generalize hog : opsS.getD k ⟨0, 0⟩ = o at ha2 hc
        simp [h0, h1, h5, h6, hgl, ha1, ha2, vcall_callable hk, hc]
        repeat refine Does.seq ?_
        refine Does.cond (c := b) (by simp) (fun hbt => ?_) (fun hbf => ?_)
        · subst hbt
          refine Does.seq (Does.region ?_)
          simp [h5, h6, ha1, ha2]
          refine Does.ret ?_
          simp [hds]
          rw [← hog, opsS_get]
          simp [opTx, opIx_at hlt hp hn]
        · subst hbf
          refine Does.skip ?_
          simp
          refine Does.region ?_
          have hw : IntKind.i64.wrap ((k : Int) + 1) = (k : Int) + 1 := wrap_i64 (by omega) (by omega)
          simp [h6, vbin_add, hw]
          refine ⟨k + 1, by omega, hds, hgl, by omega, h0, h1, h5, by simp, fun j hj => ?_⟩
          by_cases hj' : j = k
          · rw [hj']; exact hp
          · exact hn j (by omega)
      · have hlt' : ¬ (k : Int) < 12 := by omega
        simp [h5, h6, hlen, vbin_lss, hlt']
        repeat refine Does.seq ?_
        refine Does.condF (by simp) ?_
        refine Does.exit ?_
        simp [hds]
        exact opIx_no fun j hj => hn j (by omega)
end Go.Vm
