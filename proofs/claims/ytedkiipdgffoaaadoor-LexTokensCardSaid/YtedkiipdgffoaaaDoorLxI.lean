/- The cutter: cut. -/
import Derived.Test.YtedkiipdgffoaaaDoorLxH
namespace Go.Vm
open Go Go.Proofs Go.Lx
attribute [local simp] Oks xOps vwanted isDefer vop kindOf vpure ev evs toV andThen inBlock atTo_some Fr.dsTo Fr.glTo Fr.toNone initFr_at initFr_ds initFr_gl veff traverse tupled vresult V.undef evOpt xDraw xStep

def StepR (lo id : Nat) (s : S) (a : Nat) (ts : List Tk) (st' : St) (x : Int) (ok : Bool) : Stp → Prop
  | .gap n => ok = true ∧ ∃ out', Cu st' id s (a + n) out' ∧ Ot lo st' out' ts
  | .tok k n => ok = true ∧ ∃ out', Cu st' id s (a + n) out' ∧ Ot lo st' out' (ts ++ [⟨k, s.cut a (a + n), a⟩])
  | .bad n => ok = false ∧ x = ((a + n : Nat) : Int)

/-- what cut comes to -/
def CutR (lo id : Nat) (s : S) (a : Nat) (b : UInt8) (r : List UInt8) (ts : List Tk) (st : St) (v : V) (st' : St) : Prop :=
  ∃ x ok, v = .tup [.int .i64 x, .bool ok] ∧ st.ctr ≤ st'.ctr ∧ (∀ i, i < lo → i ≠ id → st'.box.get i = st.box.get i) ∧ StepR lo id s a ts st' x ok (stepL b r)

theorem g0_get {i : Nat} (hi : i < 12) : vindexAddr Tryd.prog 49 (.cp (opsS.map .str)) (.int .i64 (i : Int)) = some (.cp ((opsS.map .str).drop i)) ∧ ∀ st, vload Tryd.prog st 9 (.cp ((opsS.map .str).drop i)) = some (.str (opsS.getD i ⟨0, 0⟩)) := by
  have hb : Nat.blt i 12 = true := by rw [blt_dec]; exact decide_eq_true hi
  have h1 : i < opsS.length := by rw [opsS_len]; exact hi
  refine ⟨by simp only [vindexAddr, Tryd.underlying49, asNat_cast, z9, hb, Nat.mul_one], fun st => ?_⟩
  simp only [vload, vpart, a9, z9]
  simp [List.getD_eq_getElem?_getD, h1]
theorem g0_slice : vslice Tryd.prog 49 (.cp (opsS.map .str)) none none = some (.sl 12 (opsS.map .str) true) := by
  have hs : sub (opsS.map V.str) (0 * 1) ((12 - 0) * 1) = opsS.map .str := by rfl
  simp only [vslice, Tryd.underlying49, bound, z9, hs]
  rfl

variable [Memo] [NL]

set_option maxHeartbeats 1000000 in
theorem cut_ok (gl : Gl) (hgl : gl.get 0 = some (opsS.map .str)) (st : St) (lo id : Nat) (s : S) (a : Nat) (out : V) (ts : List Tk) (hc : Cu st id s a out) (hid : id < lo) (hlo : lo ≤ st.ctr) (ho : Ot lo st out ts) (ha : a < s.n) (hn : s.n < 1000000) (hts : ts.length < 900000)
    (b : UInt8) (r : List UInt8) (hbr : s.toList.drop a = b :: r) :
    ∃ v st', W Tryd.prog (.call gl 17 [.ptr id 0]) st = .call (.val v st') ∧ CutR lo id s a b r ts st v st' := by
  have hk21 : callable Tryd.prog 21 = true := by kernel_rfl
  have hk22 : callable Tryd.prog 22 = true := by kernel_rfl
  have hk23 : callable Tryd.prog 23 = true := by kernel_rfl
  have hk26 : callable Tryd.prog 26 = true := by kernel_rfl
  have f0 := field0 id
  have f1 := field1 id
  have zs9 : zeroT Tryd.prog 9 = some (.str ⟨0, 0⟩) := by kernel_rfl
  have hrl : r.length + 1 = s.n - a := by
    have := congrArg List.length hbr
    simp at this; omega
  refine call_ex (NL.no _ rfl _ _) Tryd.func17 rfl (by kernel_rfl) ?_
  repeat refine Does.seq ?_
  refine Does.region ?_
  simp
  repeat refine Does.seq ?_
  refine Does.region ?_
  obtain ⟨v, st1, hcall, ok, rfl, hbut, hbl⟩ := blank_ok gl st id s a out hc (by omega) ha hn b r hbr
  have hcall := ihCall_W hcall
  have ho1 := ho.but hbut hid
  have hlo1 : lo ≤ st1.ctr := Nat.le_trans hlo hbut.ctr
  have hfm1 : ∀ i, i < lo → i ≠ id → st1.box.get i = st.box.get i := fun i hi hne => hbut.box i (by omega) hne
  have hct1 := hbut.ctr
  simp [vcall_callable hk21, hcall]
  repeat refine Does.seq ?_
  rcases hbl with ⟨rfl, n, hst, hcu⟩ | ⟨rfl, hcu, hng⟩
  · refine Does.condT (by simp) ?_
    repeat refine Does.seq ?_
    refine Does.region ?_
    simp
    refine Does.ret ?_
    simp
    refine ⟨0, true, rfl, hct1, hfm1, ?_⟩
    rw [hst]
    exact ⟨rfl, out, hcu, ho1⟩
  · clear hcall hbut hc ho
    refine Does.condF (by simp) ?_
    refine Does.skip ?_
    simp
    repeat refine Does.seq ?_
    refine Does.draw (b := [0, 1, 3, 7, 0, 16, 48, 112, 255, 0, 1023]) (l := [0, 1, 2, 3, 4, 5, 6, 7, 8, 9, 10]) (by kernel_rfl) (by kernel_rfl) (by kernel_rfl) ?_
    have hkt := (Keep.refl st1).tick 11
    have hct := hcu.keep hkt (by omega)
    have l0 := hct.l0
    have l1 := hct.l1
    have hsl := vslice_lo (P := Tryd.prog) (k := .i64) Tryd.underlying9 (s := s) (lo := a) (by omega)
    have hR : (s.cut a s.n).toList = b :: r := by rw [rest_toList s (by omega), hbr]
    have hRn : (s.cut a s.n).n = s.n - a := rfl
    generalize s.cut a s.n = R at hsl hR hRn
    have hR0 : 0 < R.n := by omega
    have hb : b = UInt8.ofNat (R.at 0) := by
      have := R.toList_at hR0
      rw [hR] at this
      simpa using this
    have hb0 := R.at_lt 0
    have hix := vindex_str (P := Tryd.prog) (k := .i64) Tryd.underlying9 hR0
    simp only [Int.ofNat_zero, Int.natCast_zero, Int.cast_ofNat_Int] at hix
    have hst9 := vstore_one (P := Tryd.prog) (st := { ctr := st1.ctr + 11, box := st1.box.put (st1.ctr + 9) (.cells [.str ⟨0, 0⟩] 9 true (some 0)) }) (off := 0) (id := st1.ctr + 9) (cs := [.str ⟨0, 0⟩]) (e := 9) (fl := true) (v := .str R) z9 (by simp [Tr.get_put]) (by decide) rfl
    simp [sameIn, f0, f1, l0, l1, veq_str, veq_int, hsl, valloc, zs9, V.cells, oneC, mkRef, vact, hst9]
    have hk2 : Keep st1 { ctr := st1.ctr + 11, box := (st1.box.put (st1.ctr + 9) (.cells [.str ⟨0, 0⟩] 9 true (some 0))).put (st1.ctr + 9) (.cells [.str R] 9 true (some 0)) } :=
      Keep.put (id := st1.ctr + 9) (Keep.put (id := st1.ctr + 9) hkt (Nat.le_add_right ..) (.cells [.str ⟨0, 0⟩] 9 true (some 0))) (Nat.le_add_right ..) (.cells [.str R] 9 true (some 0))
    have hbx : ({ ctr := st1.ctr + 11, box := (st1.box.put (st1.ctr + 9) (.cells [.str ⟨0, 0⟩] 9 true (some 0))).put (st1.ctr + 9) (.cells [.str R] 9 true (some 0)) } : St).box.get (st1.ctr + 9) = some (.cells [.str R] 9 true (some 0)) := by simp [Tr.get_put]
    have hc29 : st1.ctr + 9 < ({ ctr := st1.ctr + 11, box := (st1.box.put (st1.ctr + 9) (.cells [.str ⟨0, 0⟩] 9 true (some 0))).put (st1.ctr + 9) (.cells [.str R] 9 true (some 0)) } : St).ctr := by show st1.ctr + 9 < st1.ctr + 11; omega
    revert hk2 hbx hc29
    generalize ({ ctr := st1.ctr + 11, box := (st1.box.put (st1.ctr + 9) (.cells [.str ⟨0, 0⟩] 9 true (some 0))).put (st1.ctr + 9) (.cells [.str R] 9 true (some 0)) } : St) = st2
    intro hk2 hbx hc29
    clear hst9 l0 l1 hct hkt
    have hcu2 := hcu.keep hk2 (by omega)
    have ho2 := ho1.keep hk2
    have hlo2 : lo ≤ st2.ctr := Nat.le_trans hlo1 hk2.ctr
    have hct2 : st.ctr ≤ st2.ctr := Nat.le_trans hct1 hk2.ctr
    have hfm2 : ∀ i, i < lo → i ≠ id → st2.box.get i = st.box.get i := fun i hi hne => by rw [hk2.box i (by omega), hfm1 i hi hne]
    have l9 := vload_of (P := Tryd.prog) (off := 0) a9 z9 hbx rfl
    have hstep : stepL b r = if b = 10 then .tok 1 1 else match opIx (b :: r) with
      | some _ => .tok 2 (opTx (b :: r)).length
      | none =>
        match wordL (b :: r) with
        | (n, false) => .bad n
        | (n, true) => .tok (kindL ((b :: r).take n)) n := by
      rw [stepL, if_neg hng.1, if_neg hng.2.1, if_neg hng.2.2]
      rfl
    clear hcu ho1 hk2 hlo1 hct1 hfm1
    repeat refine Does.seq ?_
    refine Does.region ?_
    by_cases h10 : R.at 0 = 10
    · have h10' : (R.at 0 : Int) = 10 := by omega
      have hb10 : b = 10 := by rw [hb, h10]; rfl
      rw [if_pos hb10] at hstep
      simp [l9, hix, vbin_eql, h10']
      repeat refine Does.seq ?_
      refine Does.condT (by simp) ?_
      repeat refine Does.seq ?_
      refine Does.region ?_
      obtain ⟨v, st3, hcall, out', hcu3, ho3, hct3, hfm3⟩ := put_ok gl st2 lo id s a 1 1 out ts hcu2 hid hlo2 ho2 (by omega) hn hts
      have hcall := ihCall_W hcall
      simp only [Int.cast_ofNat_Int] at hcall
      simp [vcall_callable hk22, hcall]
      repeat refine Does.seq ?_
      refine Does.region ?_
      simp
      refine Does.ret ?_
      simp
      refine ⟨0, true, rfl, by omega, fun i hi hne => by rw [hfm3 i hi hne, hfm2 i hi hne], ?_⟩
      rw [hstep]
      exact ⟨rfl, out', hcu3, ho3⟩
    · have h10' : ¬ (R.at 0 : Int) = 10 := by omega
      have hb10 : ¬ b = 10 := by rw [hb]; exact fun h => h10 ((byte_eq hb0 (by decide)).1 h)
      rw [if_neg hb10] at hstep
      simp [l9, hix, vbin_eql, h10']
      repeat refine Does.seq ?_
      refine Does.condF (by simp) ?_
      refine Does.skip ?_
      simp
      repeat refine Does.seq ?_
      refine Does.region ?_
      have hcall := ihCall_W (indexFunc_ok gl st2 R (st1.ctr + 9) 9 true (some 0) hbx true)
      rw [hR] at hcall
      have hg := g0_slice
      simp [hgl, hg, vcall_callable hk23, hcall]
      clear hcall
      repeat refine Does.seq ?_
      refine Does.region ?_
      cases hop : opIx (b :: r) with
      | some j =>
        rw [hop] at hstep
        obtain ⟨hj, ht, hp, hl1, hl2, hl3⟩ := opIx_len hop
        have hge : (0 : Int) ≤ (j : Int) := by omega
        obtain ⟨gi, gl9⟩ := g0_get hj
        have hlj := vlen_str Tryd.underlying9 (s := opsS.getD j ⟨0, 0⟩)
        have hjn : (opsS.getD j ⟨0, 0⟩).n = (opTx (b :: r)).length := by rw [← S.len, opsS_get, ht]
        rw [hjn] at hlj
        generalize opsS.getD j ⟨0, 0⟩ = oj at gl9 hlj
        simp [opInt, vbin_geq]
        repeat refine Does.seq ?_
        refine Does.condT (by simp) ?_
        repeat refine Does.seq ?_
        refine Does.region ?_
        have hl2' : (opTx (b :: r)).length ≤ s.n - a := by simp at hl2; omega
        obtain ⟨v, st3, hcall, out', hcu3, ho3, hct3, hfm3⟩ := put_ok gl st2 lo id s a (opTx (b :: r)).length 2 out ts hcu2 hid hlo2 ho2 (by omega) hn hts
        have hcall := ihCall_W hcall
        simp only [Int.cast_ofNat_Int] at hcall
        simp [hgl, gi, gl9, hlj, vcall_callable hk22, hcall]
        repeat refine Does.seq ?_
        refine Does.region ?_
        simp
        refine Does.ret ?_
        simp
        refine ⟨0, true, rfl, by omega, fun i hi hne => by rw [hfm3 i hi hne, hfm2 i hi hne], ?_⟩
        rw [hstep]
        exact ⟨rfl, out', hcu3, ho3⟩
      | none =>
        rw [hop] at hstep
        simp only at hstep
        simp [opInt, vbin_geq]
        repeat refine Does.seq ?_
        refine Does.condF (by simp) ?_
        refine Does.skip ?_
        simp
        repeat refine Does.seq ?_
        refine Does.region ?_
        obtain ⟨v, st3, hcall, rfl, hk3⟩ := word_ok gl st2 id s a out hcu2 (by omega) (by omega) hn
        have hcall := ihCall_W hcall
        rw [hbr] at hcall
        have hwl := wordL_le (b :: r).length (b :: r) (Nat.le_refl _)
        generalize hwd : wordL (b :: r) = wd at hcall hstep hwl
        obtain ⟨n, ok⟩ := wd
        simp only at hcall hwl
        have hcu3 := hcu2.keep hk3 (by omega)
        have ho3 := ho2.keep hk3
        have hlo3 : lo ≤ st3.ctr := Nat.le_trans hlo2 hk3.ctr
        have hct3 : st.ctr ≤ st3.ctr := Nat.le_trans hct2 hk3.ctr
        have hfm3 : ∀ i, i < lo → i ≠ id → st3.box.get i = st.box.get i := fun i hi hne => by rw [hk3.box i (by omega), hfm2 i hi hne]
        have hnl : a + n ≤ s.n := by have := hwl.1; simp at this; omega
        clear hcu2 ho2 hk3 hlo2 hct2 hfm2 hbx hwl
        simp [vcall_callable hk26, hcall]
        clear hcall
        repeat refine Does.seq ?_
        refine Does.region ?_
        cases ok with
        | false =>
          simp
          repeat refine Does.seq ?_
          refine Does.condT (by simp) ?_
          repeat refine Does.seq ?_
          refine Does.region ?_
          simp
          refine Does.ret ?_
          simp
          refine ⟨((a + n : Nat) : Int), false, by simp, hct3, hfm3, ?_⟩
          rw [hstep]
          exact ⟨rfl, rfl⟩
        | true =>
          simp
          repeat refine Does.seq ?_
          refine Does.condF (by simp) ?_
          refine Does.skip ?_
          simp
          repeat refine Does.seq ?_
          refine Does.region ?_
          simp
          repeat refine Does.seq ?_
          refine Does.draw (b := [0, 1, 3, 7, 0, 16, 48, 112, 0, 511, 1023]) (l := [0, 1, 2, 3, 4, 5, 6, 7, 8, 9, 10]) (by kernel_rfl) (by kernel_rfl) (by kernel_rfl) ?_
          have hkt := (Keep.refl st3).tick 11
          have hct4 := hcu3.keep hkt (by omega)
          have ho4 := ho3.keep hkt
          have l0 := hct4.l0
          have l1 := hct4.l1
          have hlo4 : lo ≤ ({ ctr := st3.ctr + 11, box := st3.box } : St).ctr := Nat.le_trans hlo3 hkt.ctr
          have hctr4 : st.ctr ≤ ({ ctr := st3.ctr + 11, box := st3.box } : St).ctr := Nat.le_trans hct3 hkt.ctr
          have hfm4 : ∀ i, i < lo → i ≠ id → ({ ctr := st3.ctr + 11, box := st3.box } : St).box.get i = st.box.get i := hfm3
          have hsl := vslice_lohi (P := Tryd.prog) Tryd.underlying9 (s := s) (lo := a) (hi := a + n) (by omega) hnl (k := .i64) (k' := .i64)
          simp at hsl
          simp [sameIn, f0, f1, l0, l1, veq_str, veq_int, hsl]
          clear l0 l1
          revert hct4 ho4 hlo4 hctr4 hfm4
          generalize ({ ctr := st3.ctr + 11, box := st3.box } : St) = st4
          intro hct4 ho4 hlo4 hctr4 hfm4
          clear hcu3 ho3 hlo3 hct3 hfm3 hkt
          have hcl : (s.cut a (a + n)).toList = (b :: r).take n := by
            rw [S.toList_cut s (by omega) hnl, hbr, show a + n - a = n by omega]
          have e1 : ∀ c : UInt8, (s.cut a (a + n)).same (S.ofList [c]) = decide ((b :: r).take n = [c]) := fun c => by
            rw [S.same_eq, hcl, S.toList_ofList, Bool.eq_iff_iff]; simp
          refine Does.mono (Q := fun e fr' st' => e = AE.normal ∧ st' = st4 ∧ fr'.ds = [] ∧ fr'.gl = gl ∧ Fr.at fr' 0 = .ptr id 0 ∧ Fr.at fr' 6 = .int .i64 ((a : Int) + (n : Int)) ∧ Fr.at fr' 8 = .int .u8 (kindL ((b :: r).take n) : Int)) ?ka ?kb
          case ka =>
            repeat refine Does.seq ?_
            refine Does.region ?_
            have d1 := e1 33
            have d2 := e1 123
            have d3 := e1 125
            by_cases k1 : (b :: r).take n = [33]
            · rw [k1, decide_eq_true rfl] at d1
              have hkd : kindL ((b :: r).take n) = 2 := by rw [k1]; rfl
              simp [vbin_seql, d1]
              repeat refine Does.seq ?_
              refine Does.condT (by simp) ?_
              refine Does.region ?_
              simp [hkd]
            · rw [decide_eq_false k1] at d1
              by_cases k2 : (b :: r).take n = [123]
              · rw [k2, decide_eq_true rfl] at d2
                have hkd : kindL ((b :: r).take n) = 2 := by rw [k2]; rfl
                simp [vbin_seql, d1, d2]
                repeat refine Does.seq ?_
                refine Does.condT (by simp) ?_
                refine Does.region ?_
                simp [hkd]
              · rw [decide_eq_false k2] at d2
                by_cases k3 : (b :: r).take n = [125]
                · rw [k3, decide_eq_true rfl] at d3
                  have hkd : kindL ((b :: r).take n) = 2 := by rw [k3]; rfl
                  simp [vbin_seql, d1, d2, d3]
                  repeat refine Does.seq ?_
                  refine Does.condT (by simp) ?_
                  refine Does.region ?_
                  simp [hkd]
                · rw [decide_eq_false k3] at d3
                  have hkd : kindL ((b :: r).take n) = 3 := by simp [kindL, k1, k2, k3]
                  simp [vbin_seql, d1, d2, d3]
                  repeat refine Does.seq ?_
                  refine Does.condF (by simp) ?_
                  refine Does.skip ?_
                  simp [hkd]
          case kb =>
            rintro e fr' st' ⟨rfl, hst', hds, hgl4, f40, f46, f48⟩
            rw [hst']
            simp
            repeat refine Does.seq ?_
            refine Does.region ?_
            have hw : IntKind.i64.wrap ((a : Int) + (n : Int) - (a : Int)) = (n : Int) := by rw [wrap_i64 (by omega) (by omega)]; omega
            obtain ⟨v, st5, hcall, out', hcu5, ho5, hct5, hfm5⟩ := put_ok gl st4 lo id s a n (kindL ((b :: r).take n)) out ts hct4 hid hlo4 ho4 hnl hn hts
            have hcall := ihCall_W hcall
            simp [f40, f46, f48, f1, hct4.l1, vbin_sub, hw, hgl4, vcall_callable hk22, hcall]
            repeat refine Does.seq ?_
            refine Does.region ?_
            simp
            refine Does.ret ?_
            simp [hds]
            refine ⟨0, true, rfl, by omega, fun i hi hne => by rw [hfm5 i hi hne, hfm4 i hi hne], ?_⟩
            rw [hstep]
            exact ⟨rfl, out', hcu5, ho5⟩
end Go.Vm
