/- The law LexCovers returns true, by the evaluator's equations. -/
import Derived.Test.YtedkiipdgffoaaaDoorLy5
namespace Go.Vm
open Go Go.Proofs Go.Lx
attribute [local simp] Oks xOps vwanted isDefer vop kindOf vpure ev evs toV andThen inBlock atTo_some Fr.dsTo Fr.glTo Fr.toNone initFr_at initFr_ds initFr_gl veff traverse tupled vresult V.undef evOpt xDraw xStep

/-- the head of the loop over the tokens -/
def CovI (gl : Gl) (st1 : St) (s : S) (x : V) (ts : List Tk) (i : Nat) (fr' : Fr) (st' : St) : Prop :=
  Keep st1 st' ∧ fr'.ds = [] ∧ fr'.gl = gl ∧ Fr.at fr' 0 = .str s ∧ Fr.at fr' 3 = x ∧ Fr.at fr' 8 = .int .i64 (i : Int) ∧ i ≤ ts.length ∧ ∃ a : Nat, Fr.at fr' 6 = .int .i64 (a : Int) ∧ a ≤ s.n ∧ cutL (s.toList.drop a) a = ((ts.drop i).map Tk.tok, none) ∧
      ∃ again, Fr.at fr' 7 = .str again ∧ again.n ≤ 2 * a ∧ again.toList = againL ((ts.take i).map Tk.tok)

theorem bool_eq {b : Bool} (h : b = true) : (V.bool b) = .bool true := by rw [h]

variable [Memo] [NL]

set_option maxHeartbeats 4000000 in
theorem lawCovers_ok (gl : Gl) (hgl : gl.get 0 = some (opsS.map .str)) (hworks : ∀ st, ihCall (W Tryd.prog) gl (.f 7) [] st = .val (.bool true) st) (st : St) (s : S) :
    ∃ v st', W Tryd.prog (.call gl 5 [.str s]) st = .call (.val v st') ∧ LawV v st' := by
  have hk7 : callable Tryd.prog 7 = true := by kernel_rfl
  have hk10 : callable Tryd.prog 10 = true := by kernel_rfl
  have hk14 : callable Tryd.prog 14 = true := by kernel_rfl
  have hk15 : callable Tryd.prog 15 = true := by kernel_rfl
  have hls := vlen_str Tryd.underlying9 (s := s)
  refine call_ex (NL.no _ rfl _ _) Tryd.func5 rfl (by kernel_rfl) ?_
  repeat refine Does.seq ?_
  refine Does.region ?_
  simp
  repeat refine Does.seq ?_
  refine Does.region ?_
  by_cases hs8 : 8000 < s.n
  · have hs8' : (8000 : Int) < (s.n : Int) := by omega
    simp [vcall_callable hk7, hworks, hls, vbin_gtr, hs8']
    repeat refine Does.seq ?_
    refine Does.condT (by simp) ?_
    repeat refine Does.seq ?_
    refine Does.region ?_
    simp [vcall_callable hk7, hworks]
    refine Does.ret ?_
    simp
    rfl
  have hs8' : ¬ (8000 : Int) < (s.n : Int) := by omega
  simp [vcall_callable hk7, hworks, hls, vbin_gtr, hs8']
  repeat refine Does.seq ?_
  refine Does.condF (by simp) ?_
  refine Does.skip ?_
  simp
  repeat refine Does.seq ?_
  refine Does.region ?_
  obtain ⟨v, st1, hca, x, ts, rfl, hot, hts, hla, hk1⟩ := tokens_ok gl hgl st s (by omega)
  have hca := ihCall_W hca
  generalize hA1 : (tokL s.toList).2.1 = A1 at hca
  generalize hA2 : (tokL s.toList).2.2 = A2 at hca
  simp [vcall_callable hk10, hca]
  clear hca
  repeat refine Does.seq ?_
  refine Does.region ?_
  by_cases hA0 : A2 = 0
  rotate_left
  · have hA0' : ¬ (A2 : Int) = 0 := by omega
    simp [vbin_neq, hA0', hA0]
    repeat refine Does.seq ?_
    refine Does.condT (by simp) ?_
    repeat refine Does.seq ?_
    refine Does.region ?_
    simp
    refine Does.ret ?_
    simp
    rfl
  subst hA0
  obtain ⟨hcut0, hcov⟩ := covers s.toList (by simp; omega) hA2
  rw [← hts] at hcut0 hcov
  have hlen3 := hot.len
  have hla' : ts.length ≤ 8000 := by simp at hla; omega
  simp [vbin_neq]
  repeat refine Does.seq ?_
  refine Does.condF (by simp) ?_
  refine Does.skip ?_
  simp
  repeat refine Does.seq ?_
  refine Does.region ?_
  simp
  repeat refine Does.seq ?_
  refine Does.region ?_
  simp
  repeat refine Does.seq ?_
  refine Does.region ?_
  simp
  refine Does.mono (Q := fun e fr' st' => e = AE.normal ∧ Keep st1 st' ∧ fr'.ds = [] ∧ fr'.gl = gl ∧ Fr.at fr' 0 = .str s ∧ Fr.at fr' 3 = x ∧ ∃ a : Nat, Fr.at fr' 6 = .int .i64 (a : Int) ∧ a ≤ s.n ∧ cutL (s.toList.drop a) a = ([], none) ∧ ∃ again, Fr.at fr' 7 = .str again ∧ again.n ≤ 2 * a ∧ again.toList = againL (ts.map Tk.tok)) ?loop ?tail
  case loop => as_aux_lemma =>
    refine Does.block (Does.up ts.length (fun i fr' st' => CovI gl st1 s x ts i fr' st') 0 ?init ?bound ?step)
    case init => exact ⟨.refl _, by simp, by simp, by simp, by simp, by simp, Nat.zero_le _, 0, by simp, Nat.zero_le _, by simpa using hcut0, S.ofList [], by simp, by show 0 ≤ _; omega, by simp [againL]⟩
    case bound => exact fun i fr st' h => h.2.2.2.2.2.2.1
    case step =>
      rintro i fr2 st2 ⟨hk2, hds, hg, h0, h3, h8, hi, a, h6, han, hcut, again, h7, hagn, hagl⟩
      repeat refine Does.seq ?_
      refine Does.region ?_
      by_cases hil : i < ts.length
      · have hil' : (i : Int) < (ts.length : Int) := by omega
        have hdi : ts.drop i = ts[i] :: ts.drop (i + 1) := List.drop_eq_getElem_cons hil
        have hgd : ts.getD i ⟨0, ⟨0, 0⟩, 0⟩ = ts[i] := by rw [List.getD_eq_getElem?_getD, List.getElem?_eq_getElem hil]; rfl
        rw [hdi, List.map_cons] at hcut
        obtain ⟨q1, q2, q3, q4, q5, q6, _, _, _, _⟩ := (cutL_heads _ _ (Nat.le_refl _) a).1 _ _ hcut
        obtain ⟨id, j1, j2, j3, j4⟩ := hot.fields hil
        rw [hgd] at j4
        have htk : (ts.take (i + 1)) = ts.take i ++ [ts[i]] := by rw [List.take_add_one, List.getElem?_eq_getElem hil]; rfl
        generalize ts[i] = e at q1 q2 q3 q4 q5 q6 j4 htk
        simp only [Tk.tok, S.len] at q1 q2 q3 q4 q5 q6
        simp only [List.length_drop, S.len] at q3
        have hep : e.p + e.t.n ≤ s.n := by omega
        simp [h3, h8, hlen3, vbin_lss, hil']
        repeat refine Does.seq ?_
        refine Does.condT (by simp) ?_
        refine Does.skip ?_
        simp
        repeat refine Does.seq ?_
        refine Does.block ?_
        repeat refine Does.seq ?_
        refine Does.draw (b := [0, 0, 3, 7, 15, 0, 63, 127, 255, 255, 255, 255, 3327, 7423, 15615, 32767, 65535, 131071, 262143, 524287, 1048575, 1048575, 1048575, 7340031, 15728639, 32505855, 1048575, 1048575, 202375167, 470810623, 1007681535, 2147483647, 4294967295, 8589934591, 17179869183, 34359738367, 34359738367, 137438953471, 274877906943, 549755813887, 1099511627775, 2199023255551]) (l := [0, 1, 2, 3, 4, 5, 6, 7, 8, 9, 10, 11, 12, 13, 14, 15, 16, 17, 18, 19, 20, 21, 22, 23, 24, 25, 26, 27, 28, 29, 30, 31, 32, 33, 34, 35, 36, 37, 38, 39, 40, 41]) (by kernel_rfl) (by kernel_rfl) (by kernel_rfl) ?_
        have hkd : Keep st1 { st2 with ctr := st2.ctr + 42 } := hk2.tick 42
        obtain ⟨_, y9, y3⟩ := j4 _ hkd
        have j3' := j3 .i64
        have t1 := tfld1 id (i * 3)
        have t2 := tfld2 id (i * 3)
        have hlt : ¬ (e.p : Int) < (a : Int) := by omega
        have hsl := vslice_lohi (P := Tryd.prog) (k := .i64) (k' := .i64) Tryd.underlying9 (s := s) (lo := a) (hi := e.p) q1 (by omega)
        have hidle := ihCall_W (idle_ok gl { st2 with ctr := st2.ctr + 42 } (s.cut a e.p) (by rw [cut_n]; omega))
        rw [S.toList_cut s q1 (by omega), q5] at hidle
        have his := ihCall_W (is_ok gl { st2 with ctr := st2.ctr + 42 } s e.p e.t (by omega) (by omega) (by omega))
        have hpre : e.t.toList.isPrefixOf (s.toList.drop e.p) = true := by
          rw [List.isPrefixOf_iff_prefix, q4, List.drop_drop, show a + (e.p - a) = e.p by omega]
          exact List.take_prefix _ _
        rw [hpre] at his
        have hne : e.t.same (S.ofList []) = false := by
          rw [same_nil]
          refine decide_eq_false fun h => ?_
          have : e.t.toList.length = 0 := by rw [h]; rfl
          rw [S.len] at this; omega
        generalize s.cut a e.p = gp at hsl hidle
        simp [sameIn, h0, h3, h6, h8, hg, j3', t1, t2, y9, y3, veq_int, veq_str, vbin_lss, hlt, hsl, vcall_callable hk14, hidle, vcall_callable hk15, his, vbin_seql, hne]
        clear hidle his
        repeat refine Does.seq ?_
        refine Does.condF (by simp) ?_
        refine Does.skip ?_
        simp
        repeat refine Does.seq ?_
        refine Does.draw (b := [0, 0, 3, 7, 15, 0, 0, 96, 224, 480, 992, 2047, 4095]) (l := [0, 1, 2, 3, 4, 5, 6, 7, 8, 9, 10, 11, 12]) (by kernel_rfl) (by kernel_rfl) (by kernel_rfl) ?_
        have hkd2 : Keep st1 { ctr := st2.ctr + 42 + 13, box := st2.box } := hkd.tick 13
        obtain ⟨_, z9, z3'⟩ := j4 _ hkd2
        have hlt9 := vlen_str Tryd.underlying9 (s := e.t)
        have hw := wrap_add (n := e.p) (m := e.t.n) (by omega)
        simp [sameIn, h3, h8, j3', t1, t2, z9, z3', veq_int, veq_str, hlt9, vbin_add, hw]
        refine Does.region ?_
        have h32 : (S.ofList [32]).n = 1 := rfl
        have hj1 := vbin_sadd (P := Tryd.prog) (kk := false) (T := 9) (x := again) (y := e.t) (by omega)
        have hj2 := vbin_sadd (P := Tryd.prog) (kk := true) (T := 9) (x := again.app e.t) (y := S.ofList [32]) (by show again.n + e.t.n + 1 < _; omega)
        have hjn : ((again.app e.t).app (S.ofList [32])).n = again.n + e.t.n + 1 := rfl
        have hjl : ((again.app e.t).app (S.ofList [32])).toList = again.toList ++ (e.t.toList ++ [32]) := by rw [S.toList_app, S.toList_app, S.toList_ofList, List.append_assoc]
        generalize (again.app e.t).app (S.ofList [32]) = again2 at hj2 hjn hjl
        simp [h3, h7, h8, j3', t1, z9, isK, hj1, hj2]
        refine Does.region ?_
        have wi := wrap1 (i := i) (by omega)
        simp at wi
        simp [h8, vbin_add, wi]
        refine ⟨i + 1, by omega, hkd2, by simp [hds], by simp [hg], by simp [h0], by simp [h3], by simp, by omega, e.p + e.t.n, by simp, by omega, ?_, again2, by simp, by omega, ?_⟩
        · rw [← q6, List.drop_drop]; congr 2; omega
        · rw [hjl, hagl, htk]
          simp [againL, Tk.tok]
      · have hil' : ¬ (i : Int) < (ts.length : Int) := by omega
        have hie : i = ts.length := by omega
        subst hie
        simp [h3, h8, hlen3, vbin_lss]
        repeat refine Does.seq ?_
        refine Does.condF (by simp) ?_
        refine Does.exit ?_
        simp only [inBlock, if_true, andThen]
        refine ⟨trivial, hk2, by simp [hds], by simp [hg], by simp [h0], by simp [h3], a, by simp [h6], han, by simpa using hcut, again, by simp [h7], hagn, by simpa using hagl⟩
  case tail => as_aux_lemma =>
  rintro e fr st2 ⟨rfl, hk2, hds, hg, h0, h3, a, h6, han, hcut, again, h7, hagn, hagl⟩
  simp
  repeat refine Does.seq ?_
  refine Does.region ?_
  have hsl := vslice_lo (P := Tryd.prog) (k := .i64) Tryd.underlying9 (s := s) (lo := a) han
  have hidle := ihCall_W (idle_ok gl st2 (s.cut a s.n) (by rw [cut_n]; omega))
  rw [rest_toList s han, (cutL_heads _ _ (Nat.le_refl _) a).2 hcut] at hidle
  simp [h0, h6, hg, hsl, vcall_callable hk14, hidle]
  clear hidle
  repeat refine Does.seq ?_
  refine Does.condF (by simp) ?_
  refine Does.skip ?_
  simp
  repeat refine Does.seq ?_
  refine Does.region ?_
  by_cases hnb : s.n = 0 ∨ ∃ h : 0 < s.n, s.at (s.n - 1) ≠ 92
  rotate_left
  · have hpos : 0 < s.n := by omega
    have h92 : s.at (s.n - 1) = 92 := by
      rcases Classical.em (s.at (s.n - 1) = 92) with h | h
      · exact h
      · exact absurd (.inr ⟨hpos, h⟩) hnb
    have hpos' : (0 : Int) < (s.n : Int) := by omega
    have hix := vindex_str (P := Tryd.prog) (k := .i64) Tryd.underlying9 (s := s) (i := s.n - 1) (by omega)
    have hw : IntKind.i64.wrap ((s.n : Int) - 1) = ((s.n - 1 : Nat) : Int) := by rw [wrap_i64 (by omega) (by omega)]; omega
    rw [h92] at hix
    simp [h0, hls, vbin_gtr, hpos', hpos, vbin_sub, hw, hix, vbin_eql]
    repeat refine Does.seq ?_
    refine Does.condT (by simp) ?_
    repeat refine Does.seq ?_
    refine Does.region ?_
    simp
    refine Does.ret ?_
    simp [hds]
    rfl
  obtain ⟨hcl, hco, hct⟩ := hcov (nb_of hnb)
  refine Oks.cont (Q := fun fr' st' => st' = st2 ∧ Fr.at fr' 112 = .bool false ∧ fr'.ds = [] ∧ fr'.gl = gl ∧ Fr.at fr' 3 = x ∧ Fr.at fr' 7 = .str again) ?r17 ?rest
  case r17 => as_aux_lemma =>
    rcases hnb with hn0 | ⟨hpos, h92⟩
    · have hpos' : ¬ (0 : Int) < (s.n : Int) := by omega
      simp [h0, h3, h7, hds, hg, hls, vbin_gtr, hpos', hn0]
    · have hpos' : (0 : Int) < (s.n : Int) := by omega
      have hix := vindex_str (P := Tryd.prog) (k := .i64) Tryd.underlying9 (s := s) (i := s.n - 1) (by omega)
      have hw : IntKind.i64.wrap ((s.n : Int) - 1) = ((s.n - 1 : Nat) : Int) := by rw [wrap_i64 (by omega) (by omega)]; omega
      have h92' : ¬ (s.at (s.n - 1) : Int) = 92 := by omega
      simp [h0, h3, h7, hds, hg, hls, vbin_gtr, hpos', hpos, vbin_sub, hw, hix, vbin_eql, h92', h92]
  case rest => as_aux_lemma =>
  clear hds hg h0 h3 h6 h7
  rintro fr st' ⟨hst', h112, hds, hg, h3, h7⟩
  rw [hst']
  simp
  repeat refine Does.seq ?_
  refine Does.condF (by simp [h112]) ?_
  refine Does.skip ?_
  simp
  repeat refine Does.seq ?_
  refine Does.region ?_
  obtain ⟨v, st3, hcb, y, us, rfl, hou, hus, hlu, hk3⟩ := tokens_ok gl hgl st2 again (by omega)
  have hcb := ihCall_W hcb
  rw [hagl] at hcb hus
  rw [hco] at hcb
  generalize (tokL (againL (List.map Tk.tok ts))).2.1 = B1 at hcb
  rw [← hus] at hct
  have hll : us.length = ts.length := by simpa using congrArg List.length hct
  have hleny := hou.len
  rw [hll] at hleny
  have hkk := hk2.trans hk3
  simp at hcb
  simp [h7, hg, vcall_callable hk10, hcb]
  clear hcb
  repeat refine Does.seq ?_
  refine Does.region ?_
  simp [h3, vbin_neq, hlen3, hleny]
  repeat refine Does.seq ?_
  refine Does.condF (by simp) ?_
  refine Does.skip ?_
  simp
  repeat refine Does.seq ?_
  refine Does.region ?_
  simp
  refine Does.mono (Q := fun e fr' st' => e = AE.normal ∧ fr'.ds = []) ?loop2 ?tail2
  case tail2 => as_aux_lemma =>
    rintro e fr' st' ⟨rfl, hds⟩
    simp
    repeat refine Does.seq ?_
    refine Does.region ?_
    simp
    refine Does.ret ?_
    simp [hds]
    rfl
  case loop2 => as_aux_lemma =>
    refine Does.block (Does.up ts.length (fun i fr' st' => Keep st3 st' ∧ fr'.ds = [] ∧ Fr.at fr' 3 = x ∧ Fr.at fr' 9 = y ∧ Fr.at fr' 12 = .int .i64 (i : Int) ∧ i ≤ ts.length) 0 ?init ?bound ?step)
    case init => exact ⟨.refl _, by simp [hds], by simp [h3], by simp, by simp, Nat.zero_le _⟩
    case bound => exact fun i fr st' h => h.2.2.2.2.2
    case step =>
      clear hds hg h3 h7
      rintro i fr2 st4 ⟨hk4, hds, h3, h9, h12, hi⟩
      repeat refine Does.seq ?_
      refine Does.region ?_
      by_cases hil : i < ts.length
      · have hil' : (i : Int) < (ts.length : Int) := by omega
        obtain ⟨id, j1, j2, j3, j4⟩ := hot.fields hil
        obtain ⟨id', j1', j2', j3', j4'⟩ := hou.fields (show i < us.length by omega)
        have hkt : (us.getD i ⟨0, ⟨0, 0⟩, 0⟩).k = (ts.getD i ⟨0, ⟨0, 0⟩, 0⟩).k ∧ (us.getD i ⟨0, ⟨0, 0⟩, 0⟩).t.toList = (ts.getD i ⟨0, ⟨0, 0⟩, 0⟩).t.toList := by
          have h := congrArg (fun z => z[i]?) hct
          simp only [List.getElem?_map, List.getElem?_eq_getElem hil, List.getElem?_eq_getElem (show i < us.length by omega), Option.map_some, Option.some.injEq, Prod.mk.injEq, Tk.tok] at h
          simp only [List.getD_eq_getElem?_getD, List.getElem?_eq_getElem hil, List.getElem?_eq_getElem (show i < us.length by omega), Option.getD_some]
          exact h
        generalize ts.getD i ⟨0, ⟨0, 0⟩, 0⟩ = e at j4 hkt
        generalize us.getD i ⟨0, ⟨0, 0⟩, 0⟩ = f at j4' hkt
        simp [h3, h12, hlen3, vbin_lss, hil']
        repeat refine Does.seq ?_
        refine Does.condT (by simp) ?_
        refine Does.skip ?_
        simp
        repeat refine Does.seq ?_
        refine Does.block ?_
        repeat refine Does.seq ?_
        refine Does.draw (b := [0, 0, 3, 7, 15, 0, 0, 96, 224, 480, 1023, 2047, 4095, 4095, 16383, 32767, 65535, 4095, 4095, 397311, 921599, 1970175, 4194303, 8388607]) (l := [0, 1, 2, 3, 4, 5, 6, 7, 8, 9, 10, 11, 12, 13, 14, 15, 16, 17, 18, 19, 20, 21, 22, 23]) (by kernel_rfl) (by kernel_rfl) (by kernel_rfl) ?_
        have hk5 : Keep st3 { st4 with ctr := st4.ctr + 24 } := hk4.tick 24
        obtain ⟨y5, y9, _⟩ := j4 _ (hkk.trans hk5)
        obtain ⟨y5', y9', _⟩ := j4' _ hk5
        have i1 := j3 .i64
        have i2 := j3' .i64
        have t0 := tfld0 id (i * 3)
        have t0' := tfld0 id' (i * 3)
        have t1 := tfld1 id (i * 3)
        have t1' := tfld1 id' (i * 3)
        have hse : f.t.same e.t = true := by rw [S.same_eq, hkt.2]; simp
        rw [hkt.1] at y5'
        simp [sameIn, h3, h9, h12, i1, i2, t0, t0', t1, t1', y5, y5', y9, y9', veq_int, veq_str, vbin_neq, vbin_sneq, hse]
        repeat refine Does.seq ?_
        refine Does.condF (by simp) ?_
        refine Does.skip ?_
        simp
        refine Does.region ?_
        have wi := wrap1 (i := i) (by omega)
        simp at wi
        simp [h12, vbin_add, wi]
        exact ⟨i + 1, by omega, hk5, hds, h3, h9, by simp, by omega⟩
      · have hil' : ¬ (i : Int) < (ts.length : Int) := by omega
        simp [h3, h12, hlen3, vbin_lss, hil']
        repeat refine Does.seq ?_
        refine Does.condF (by simp) ?_
        refine Does.exit ?_
        simp [hds]
end Go.Vm
