/- Texts without line's ends, paths without colons: by the program, by the document. -/
import Derived.Test.YtlholbhaajklhaaGreatDoorRzD
import Derived.Test.YtlholbhaajklhaaGreatDoorRzB
namespace Go.Vm
open Go Go.Proofs Go.Pa
attribute [local simp] OkS QL OkG Qf Qs OkD J3 Qe JL Je Jk vop Jq Jx ev evs toV Jj Fr.dsTo Fr.glTo Fr.toNone Jg Jh Ji J7 QI Jc JF Jt V.undef JX JQ Qg J8 J9 Qa Qh Qi JT Qb Qj Qc JR Qk JE Jw Jy JD JG Ju JS JW JK Ql
def JaS (l : List UInt8) : List UInt8 := l.flatMap fun b => if b = 58 then [92, 58] else [b]
theorem Jd4 (a b : List UInt8) : JaS (a ++ b) = JaS a ++ JaS b := by simp [JaS]
theorem Jft : ∀ {l : List UInt8}, 58 ∉ l → JaS l = l
 | [], _ => rfl
 | a :: l, h => by
  have h1 : a ≠ 58 := fun e => h (by simp [e])
  have h2 : 58 ∉ l := fun e => h (by simp [e])
  show (if a = 58 then [92, 58] else [a]) ++ JaS l = a :: l
  rw [if_neg h1, Jft h2]; rfl
theorem JiC : ∀ l : List UInt8, (JaS l).length ≤ 2 * l.length
 | [] => Nat.le_refl _
 | a :: l => by
  have := JiC l
  have h1 : ((if a = 58 then [92, 58] else [a]) : List UInt8).length ≤ 2 := by split <;> simp
  rw [show JaS (a :: l) = (if a = 58 then [92, 58] else [a]) ++ JaS l from by simp [JaS], List.length_append, List.length_cons]; omega
theorem JbH : ∀ l : List UInt8, (JaS l).length = l.length + l.count 58
 | [] => rfl
 | a :: l => by
  have := JbH l
  rw [show JaS (a :: l) = (if a = 58 then [92, 58] else [a]) ++ JaS l from by simp [JaS], List.length_append, this, List.length_cons, List.count_cons]
  by_cases h : a = 58
  ·rw [if_pos h]; simp [h]; omega
  ·rw [if_neg h]; simp [h]; omega
theorem Jmt : ∀ {l : List UInt8}, 58 ∈ l → ∃ pre rest, l = pre ++ 58 :: rest ∧ 58 ∉ pre ∧ l.takeWhile (· ≠ 58) = pre
 | [], h => by simp at h
 | a :: l, h => by
  by_cases ha : a = 58
  ·subst ha; exact ⟨[], l, rfl, by simp, by simp⟩
  ·have hl : 58 ∈ l := by
    rcases List.mem_cons.1 h with h | h
    ·exact absurd h.symm ha
    ·exact h
   obtain ⟨p, r, h1, h2, h3⟩ := Jmt hl
   refine ⟨a :: p, r, by rw [h1]; rfl, fun hm => ?_, by rw [List.takeWhile_cons, if_pos (by simpa using ha), h3]⟩
   rcases List.mem_cons.1 hm with hm | hm
   ·exact ha hm.symm
   ·exact h2 hm
theorem Jmu {l : List UInt8} (h : 0 < l.count 58) : ∃ pre rest, l = pre ++ 58 :: rest ∧ 58 ∉ pre ∧ Lib.indexByte l 58 = (pre.length : Int) ∧ rest.count 58 + 1 = l.count 58 := by
 have hm : (58 : UInt8) ∈ l := List.count_pos_iff.1 h
 obtain ⟨p, r, h1, h2, h3⟩ := Jmt hm
 refine ⟨p, r, h1, h2, by rw [Jbo, if_pos hm, h3], ?_⟩
 rw [h1, List.count_append, List.count_cons, List.count_eq_zero.2 h2]
 simp
theorem Qt : QY Tryz.prog 9 (.str (S.ofList [58])) = some (.int .i64 1) := by simp only [QY, Tryz.underlying9]; rfl
theorem QU : QY Tryz.prog 9 (.str (S.ofList [92, 58])) = some (.int .i64 2) := by simp only [QY, Tryz.underlying9]; rfl
variable [Memo] [NY]
variable [NZ] [NO]
set_option maxRecDepth 100000 in
omit [NZ] in
theorem JfV (gl : Gl) (st : St) (s : S) (hs : s.n ≤ 100000) :
  Says Tryz.prog gl 23 [.str s] st (fun v st' => (∃ t : S, v = .str t ∧ t.toList = esc s.toList) ∧ Keep st st') := by
 refine QD (NY.no _ rfl rfl rfl _ _) Tryz.func23 rfl (by kernel_rfl) fun R hR K gr gn => ?_
 generalize hfr : JH gl [.str s] = fr
 have hF : Fs gl [(0, .str s)] fr := by subst hfr; simp [Fs]
 simp only [Fs] at hF
 clear hfr
 obtain ⟨sA, hsA⟩ : ∃ q, q = st.new (.cells oldsV 9 true (some 0)) := ⟨_, rfl⟩
 have kA : Keep st sA := by rw [hsA]; exact (Keep.refl st).new' _
 have cA : sA.ctr = st.ctr + 1 := by rw [hsA]; rfl
 have bA : sA.box.get st.ctr = some (.cells oldsV 9 true (some 0)) := by rw [hsA, Js, if_pos rfl]
 have hfA : ({ ctr := st.ctr + 1, box := st.box.put st.ctr (.cells oldsV 9 true (some 0)) } : St) = sA := by rw [hsA]; rfl
 clear hsA
 obtain ⟨v, s2, hcn, rfl, hraw, hk2⟩ := Says.use (Jhg gl sA st.ctr (by omega) bA)
 obtain ⟨v, s3, hcr, ⟨t, rfl, ht⟩, ri', hri, hids, hct, hbx⟩ := Says.use (Jf7 gl s2 (sA.ctr + 1) (.raw sA.ctr) s hs hraw)
 have hc2 := hk2.ctr
 have k3 : Keep st s3 := ⟨by omega, fun i hi => by rw [hbx i (by omega) (by omega)]; exact (kA.trans hk2).box i hi⟩
 have hoo : oldsV.all JZ = true := rfl
 refine Ks_ (Ka_ (gs := [none]) fun K1 gK => ?_)
 simp (disch := omega) []
 refine gK _ _ (Ks_ (Ka_ (gs := [none, none, none, none, none]) fun K1 gK => ?_))
 simp (disch := omega) [hF, JcR, hfA, hcn, hcr, hoo, J2]
 refine gK _ _ (Kq_ (gr _ _ ?_))
 simp [JM, Tryz.f23, hF]
 refine hR _ _ ?_
 exact ⟨⟨t, rfl, ht⟩, k3⟩
end Go.Vm
namespace Go.Vm
open Go Go.Proofs Go.Pa
attribute [local simp] OkS QL OkG Qf Qs OkD J3 Qe JL Je Jk vop Jq Jx ev evs toV Jj Fr.dsTo Fr.glTo Fr.toNone Jg Jh Ji J7 QI Jc JF Jt V.undef JX JQ Qg J8 J9 Qa Qh Qi JT Qb Qj Qc JR Qk JE Jw Jy JD JG Ju JS JW JK Ql
theorem JbI : QZ Tryz.prog 64 = some (.agg [.nilp, .nils]) := by kernel_rfl
theorem Jmv {s : S} : (S.ofList [58]).same s = true ↔ s.toList = [58] := by rw [S.same_eq, S.toList_ofList, beq_iff_eq]; exact ⟨Eq.symm, Eq.symm⟩
variable [Memo] [NY]
set_option maxHeartbeats 1000000 in
set_option maxRecDepth 100000 in
theorem Jp1 (gl : Gl) (st : St) (s : S) :
  Says Tryz.prog gl 123 [.str s, .str (S.ofList [58])] st (fun v st' => v = .int .i64 (Lib.indexByte s.toList 58) ∧ Sm st st') := by
 refine QD (NY.no _ rfl rfl rfl _ _) Tryz.func123 rfl (by kernel_rfl) fun R hR K gr gn => ?_
 generalize hfr : JH gl [.str s, .str (S.ofList [58])] = fr
 have hF : Fs gl [(0, .str s), (1, .str (S.ofList [58]))] fr := by subst hfr; simp [Fs]
 simp only [Fs] at hF
 clear hfr
 have hc := Jp (P := Tryz.prog) (ih := ihCall (W Tryz.prog)) (gl := gl) (args := [.str s, .int .u8 ((58 : Nat) : Int)]) (st := st) (show JN Tryz.prog 112 = true by kernel_rfl)
 rw [J1 (JgH gl st s 58)] at hc
 have hc : Jax Tryz.prog (ihCall (W Tryz.prog)) gl 112 [.str s, .int .u8 58] st = .val (.int .i64 (Lib.indexByte s.toList 58)) st := hc
 have hix : JbK Tryz.prog 9 (.str (S.ofList [58])) (.int .i64 0) = some (.int .u8 58) := by kernel_rfl
 have e0 : ∀ kk, Jf Tryz.prog kk .eql 3 (.int .i64 1) (.int .i64 0) = some (.bool false) := fun kk => QP
 have e1 : ∀ kk, Jf Tryz.prog kk .eql 3 (.int .i64 1) (.int .i64 1) = some (.bool true) := fun kk => QP
 obtain ⟨B, hB⟩ : ∃ b, (S.ofList [58]).same s = b := ⟨_, rfl⟩
 refine Ks_ (Ka_ (gs := [none]) fun K1 gK => ?_)
 simp (disch := omega) []
 refine gK _ _ (Ks_ (Ka_ (gs := [none, none, none]) fun K1 gK => ?_))
 simp (disch := omega) [hF, Qt]
 refine gK _ _ (Ks_ ?_)
 refine Kb_ fun K1 gn1 gx1 go1 => ?_
 have gr1 := fun fr st h => go1 AE.ret fr st trivial (gr fr st h)
 refine Ks_ (Ka_ (gs := [none, none, none, some (some 19, false), some (some 19, false), some (some 19, false), none, none]) fun K1 gK => ?_)
 simp (disch := omega) [hF, e0, hB]
 refine gK _ _ ?_
 cases B with
 | true =>
  refine Kt_ (by simp (disch := omega) []) ?_
  have hl := Jmv.1 hB
  have hz : Lib.indexByte s.toList 58 = 0 := by rw [hl]; rfl
  refine Ks_ (Ka_ (gs := [none]) fun K1 gK => ?_)
  simp (disch := omega) []
  refine gK _ _ (Kq_ (gr1 _ _ ?_))
  simp [JM, Tryz.f123, hF]
  refine hR _ _ ?_
  exact ⟨by rw [hz], rfl⟩
 | false =>
  refine Kf_ (by simp (disch := omega) []) (Ks_ (Ka_ (gs := [none, none, none]) fun K1 gK => ?_))
  simp (disch := omega) [e1]
  refine gK _ _ (Kt_ (by simp (disch := omega) []) (Ks_ (Ka_ (gs := [none, none, none, none, none]) fun K1 gK => ?_)))
  simp (disch := omega) [hF, hc, hix]
  refine gK _ _ (Kq_ (gr1 _ _ ?_))
  simp [JM, Tryz.f123, hF]
  refine hR _ _ ?_
  exact ⟨rfl, rfl⟩
set_option maxRecDepth 100000 in
theorem Jmw (gl : Gl) (st : St) (s : S) :
  Says Tryz.prog gl 109 [.str s, .str (S.ofList [58])] st (fun v st' => v = .int .i64 (Lib.indexByte s.toList 58) ∧ Sm st st') := by
 refine QD (NY.no _ rfl rfl rfl _ _) Tryz.func109 rfl (by kernel_rfl) fun R hR K gr gn => ?_
 generalize hfr : JH gl [.str s, .str (S.ofList [58])] = fr
 have hF : Fs gl [(0, .str s), (1, .str (S.ofList [58]))] fr := by subst hfr; simp [Fs]
 simp only [Fs] at hF
 clear hfr
 obtain ⟨v, s1, hc, rfl, hs1⟩ := Says.use (Jp1 gl st s)
 rw [show s1 = st from hs1] at hc
 refine Ks_ (Ka_ (gs := [none]) fun K1 gK => ?_)
 simp (disch := omega) []
 refine gK _ _ (Ks_ (Ka_ (gs := [none, none, none, none]) fun K1 gK => ?_))
 simp (disch := omega) [hF, hc]
 refine gK _ _ (Kq_ (gr _ _ ?_))
 simp [JM, Tryz.f109, hF]
 refine hR _ _ ?_
 exact ⟨rfl, rfl⟩
variable [NZ] [NO]
set_option maxHeartbeats 4000000 in
set_option maxRecDepth 100000 in
omit [NZ] [NO] in
theorem JnX (gl : Gl) (st : St) (s : S) (hs : s.n ≤ 300000) :
  Says Tryz.prog gl 90 [.str s, .str (S.ofList [58]), .str (S.ofList [92, 58]), .int .i64 (-1)] st (fun v st' => (∃ t : S, v = .str t ∧ t.toList = JaS s.toList) ∧ Keep st st') := by
 refine QD (NY.no _ rfl rfl rfl _ _) Tryz.func90 rfl (by kernel_rfl) fun R hR K gr gn => ?_
 generalize hfr : JH gl [.str s, .str (S.ofList [58]), .str (S.ofList [92, 58]), .int .i64 (-1)] = fr
 have hF : Fs gl [(0, .str s), (1, .str (S.ofList [58])), (2, .str (S.ofList [92, 58])), (3, .int .i64 (-1))] fr := by subst hfr; simp [Fs]
 simp only [Fs] at hF
 clear hfr
 have ls := Jap Tryz.underlying9 (s := s)
 obtain ⟨v, s1, hc, rfl, hs1⟩ := Says.use (Jf5 gl st s (S.ofList [58]) rfl)
 rw [show s1 = st from hs1] at hc
 clear hs1
 have hat : UInt8.ofNat ((S.ofList [58]).at 0) = 58 := rfl
 rw [hat] at hc
 have e0 : ∀ kk, Jf Tryz.prog kk .eql 9 (.str (S.ofList [58])) (.str (S.ofList [92, 58])) = some (.bool false) := fun kk => by cases kk <;> kernel_rfl
 have e1 : ∀ kk, Jf Tryz.prog kk .eql 3 (.int .i64 (-1)) (.int .i64 0) = some (.bool false) := fun kk => QP
 have e2 : ∀ kk, Jf Tryz.prog kk .lss 3 (.int .i64 (-1)) (.int .i64 0) = some (.bool true) := fun kk => QF
 have hcl : s.toList.count 58 ≤ s.n := by rw [← S.len]; exact List.count_le_length
 obtain ⟨m, hm⟩ : ∃ m, s.toList.count 58 = m := ⟨_, rfl⟩
 rw [hm] at hc hcl
 have hsm : (S.ofList [58]).same (S.ofList [92, 58]) = false := by kernel_rfl
 refine Ks_ (Ka_ (gs := [none]) fun K1 gK => ?_)
 simp (disch := omega) []
 refine gK _ _ (Ks_ (Ks_ (Ka_ (gs := [none, none, none, none, some (some 19, false), some (some 19, false), none]) fun K1 gK => ?_)))
 simp (disch := omega) [hF, e0, e1]
 refine gK _ _ (Kf_ (by simp (disch := omega) []) (Kk_ (Ks_ (Ks_ (Ka_ (gs := [none, none, none, none]) fun K1 gK => ?_)))))
 simp (disch := omega) [hF, hc]
 refine gK _ _ (Ks_ (Ka_ (gs := [none, none]) fun K1 gK => ?_))
 simp (disch := omega) []
 refine gK _ _ ?_
 by_cases h0 : m = 0
 ·
  refine Kt_ (by simp (disch := omega) [h0]) (Ks_ (Ka_ (gs := [none, none]) fun K1 gK => ?_))
  simp (disch := omega) [hF, h0]
  refine gK _ _ (Kq_ (gr _ _ ?_))
  simp [JM, Tryz.f90, hF]
  refine hR _ _ ?_
  exact ⟨⟨s, rfl, by rw [Jft (List.count_eq_zero.1 (by omega))]⟩, .refl _⟩
 ·
  refine Kf_ (by simp (disch := omega) [h0]) ?_
  obtain ⟨q, hq⟩ : ∃ q, q = st.new (.cells [.nilp, .nils] 64 true (some 0)) := ⟨_, rfl⟩
  have kq : Keep st q := by rw [hq]; exact (Keep.refl st).new' _
  have cq : q.ctr = st.ctr + 1 := by rw [hq]; rfl
  have bq : q.box.get st.ctr = some (.cells [.nilp, .nils] 64 true (some 0)) := by rw [hq, Js, if_pos rfl]
  have hfq : ({ ctr := st.ctr + 1, box := st.box.put st.ctr (.cells [.nilp, .nils] 64 true (some 0)) } : St) = q := by rw [hq]; rfl
  clear hq
  obtain ⟨v, q1, hg, hbl, hct, hbx⟩ := Says.use (Ji8 gl q st.ctr (s.n + m) (by omega) (by omega) (by omega) bq)
  have hlo : Low st.ctr q q1 := ⟨hct, fun i hi => hbx i (by omega) (by omega)⟩
  have kq1 : Keep st q1 := hlo.keep kq (Nat.le_refl _)
  have hN : (((s.n + m : Nat)) : Int) = (s.n : Int) + (m : Int) * 1 := by omega
  rw [hN] at hg
  have hmul : ∀ kk, Jf Tryz.prog kk .mul 3 (.int .i64 (m : Int)) (.int .i64 (2 - 1)) = some (.int .i64 ((m : Int) * 1)) := fun kk => by rw [Qd, Ju (by omega) (by omega)]; rfl
  have hmul' : ∀ kk, Jf Tryz.prog kk .mul 3 (.int .i64 (m : Int)) (.int .i64 1) = some (.int .i64 ((m : Int) * 1)) := fun kk => by rw [Qd, Ju (by omega) (by omega)]
  have e3 : ∀ kk, Jf Tryz.prog kk .gtr 3 (.int .i64 1) (.int .i64 0) = some (.bool true) := fun kk => JcU
  simp only [Int.mul_one] at hg hmul hmul'
  refine Ks_ (Ka_ (gs := [none, none, none, some (some 32, false), some (some 32, false), some (some 32, false), none]) fun K1 gK => ?_)
  simp (disch := omega) [hF, e2, h0]
  refine gK _ _ (Kt_ (by simp (disch := omega) []) (Ka_ (gs := [none, none]) fun K1 gK => ?_))
  simp (disch := omega) []
  refine gK _ _ (Ks_ (Ka_ (gs := [none]) fun K1 gK => ?_))
  simp (disch := omega) [JbI, hfq, Jl, JZ]
  refine gK _ _ (Ks_ (Ka_ (gs := [none, none, none, none, none, none, none, none, none, none, none]) fun K1 gK => ?_))
  simp (disch := omega) [hF, ls, Qt, QU, hg, hmul']
  refine gK _ _ (Ks_ (Ka_ (gs := [none]) fun K1 gK => ?_))
  simp (disch := omega) []
  refine gK _ _ (Ks_ (Ks_ (Ka_ (gs := [none, none, none]) fun K1 gK => ?_)))
  simp (disch := omega) [hF, Qt, e3]
  refine gK _ _ (Kt_ (by simp (disch := omega) []) (Ks_ (Ka_ (gs := [none, none]) fun K1 gK => ?_)))
  simp (disch := omega) []
  refine gK _ _ ?_
  refine Kl_ (m) (fun i fr st' => ∃ (dn rs : List UInt8), Fs gl [(0, .str s), (1, .str (S.ofList [58])), (2, .str (S.ofList [92, 58])), (10, .ptr st.ctr 0), (11, .int .i64 (dn.length : Int)), (52, .int .i64 (m : Int)), (53, .int .i64 (i : Int))] fr ∧ i ≤ m ∧ s.toList = dn ++ rs ∧ rs.count 58 + i = m ∧ Bld st.ctr st.ctr st' (JaS dn) ∧ Keep st st') (0) (fun fr st' => ∃ (dn rs : List UInt8), Fs gl [(0, .str s), (10, .ptr st.ctr 0), (11, .int .i64 (dn.length : Int))] fr ∧ s.toList = dn ++ rs ∧ rs.count 58 = 0 ∧ Bld st.ctr st.ctr st' (JaS dn) ∧ Keep st st') ?_ ?_ ?_ ?_
  ·exact ⟨[], s.toList, by simp [Fs, hF], Nat.zero_le _, rfl, by omega, hbl, kq1⟩
  ·rintro i fr st' ⟨dn, rs, _, hi, hdr, hcn, hbw, hk⟩
   omega
  ·as_aux_lemma =>
   clear hF
   rintro i fr st' ⟨dn, rs, hF, hi, hdr, hcn, hbw, hk⟩ K2 gk2 gx2 go2
   simp only [Fs] at hF
   have hlen : dn.length + rs.length = s.n := by rw [← S.len, hdr, List.length_append]
   have hdc := JbH dn
   have hdm : dn.count 58 + rs.count 58 = m := by rw [← List.count_append, ← hdr, hm]
   refine Ks_ (Ka_ (gs := [none]) fun K1 gK => ?_)
   simp (disch := omega) [hF]
   refine gK _ _ (Ks_ ?_)
   by_cases hlt : i < m
   ·
    refine Kt_ (by simp (disch := omega) [hlt]) ?_
    obtain ⟨pre, rest, hpr, hnp, hix, hrc⟩ := Jmu (l := rs) (by omega)
    have hsl1 := JeI (P := Tryz.prog) (k := .i64) Tryz.underlying9 (s := s) (lo := dn.length) (by omega)
    have htl1 : (s.cut dn.length s.n).toList = rs := by
     rw [S.toList_cut s (by omega) (Nat.le_refl _), hdr, List.drop_left, List.take_of_length_le (by omega)]
    obtain ⟨v, s2, hci, rfl, hs2⟩ := Says.use (Jmw gl st' (s.cut dn.length s.n))
    rw [show s2 = st' from hs2, htl1, hix] at hci
    clear hs2
    have hpl : dn.length + pre.length + 1 + rest.length = s.n := by rw [← hlen, hpr]; simp; omega
    have hsl2 : Jaf Tryz.prog 9 (.str s) (some (.int .i64 (dn.length : Int))) (some (.int .i64 ((dn.length : Int) + (pre.length : Int)))) = some (.str (s.cut dn.length (dn.length + pre.length))) := Ji0 (hi := dn.length + pre.length) Tryz.underlying9 (by omega) (by omega)
    have htl2 : (s.cut dn.length (dn.length + pre.length)).toList = pre := by
     rw [S.toList_cut s (by omega) (by omega), hdr, List.drop_left, show dn.length + pre.length - dn.length = pre.length by omega, hpr, List.take_left]
    have hpc : pre.count 58 = 0 := List.count_eq_zero.2 hnp
    obtain ⟨v, s3, hw1, hb3, hl3⟩ := Says.use (Jcj gl st' st.ctr st.ctr (JaS dn) (s.cut dn.length (dn.length + pre.length)) hbw (by rw [JoD]; omega))
    rw [htl2] at hb3
    obtain ⟨v', s4, hw2, hb4, hl4⟩ := Says.use (Jcj gl s3 st.ctr st.ctr (JaS dn ++ pre) (S.ofList [92, 58]) hb3 (by rw [List.length_append, JP]; simp; omega))
    have hadd : (dn.length : Int) + (pre.length : Int) + 1 = (dn.length : Int) + ((pre.length : Int) + 1) := by omega
    refine Kk_ (Ks_ ?_)
    refine Kb_ fun K3 gn3 gx3 go3 => ?_
    refine Ks_ (Ka_ (gs := [none, none, none, none, none, none, none, none]) fun K1 gK => ?_)
    simp (disch := omega) [hF, hlt, hsl1, hci]
    refine gK _ _ (Ks_ (Ka_ (gs := [none, none, none, none, none]) fun K1 gK => ?_))
    simp (disch := omega) [hF, hsl2, hw1]
    refine gK _ _ (Ks_ (Ka_ (gs := [none, none]) fun K1 gK => ?_))
    simp (disch := omega) [hF, hw2]
    refine gK _ _ (Ka_ (gs := [none, none, none, none, none]) fun K1 gK => ?_)
    simp (disch := omega) [hF, Qt]
    refine gK _ _ (gn3 _ _ (Ka_ (gs := [none, none]) fun K1 gK => ?_))
    simp (disch := omega) [hF]
    refine gK _ _ ?_
    refine gk2 (i + 1) _ _ (by omega) ⟨dn ++ (pre ++ [58]), rest, by simp [Fs, hF, hadd], by omega, by rw [hdr, hpr]; simp, by omega, by have e : JaS (dn ++ (pre ++ [58])) = JaS dn ++ pre ++ [92, 58] := by { rw [Jd4, Jd4, Jft hnp, List.append_assoc]; rfl }; rw [e]; rw [S.toList_ofList] at hb4; exact hb4, (hl3.trans hl4).keep hk (Nat.le_refl _)⟩
   ·
    refine Kf_ (by simp (disch := omega) [hlt]) ?_
    exact Kx_ (gx2 _ _ ⟨dn, rs, by simp [Fs, hF, hlt], hdr, by omega, hbw, hk⟩)
  ·as_aux_lemma =>
   clear hF
   rintro fr st' ⟨dn, rs, hF, hdr, hcn, hbw, hk⟩
   simp only [Fs] at hF
   have hlen : dn.length + rs.length = s.n := by rw [← S.len, hdr, List.length_append]
   have hdc := JbH dn
   have hdm : dn.count 58 + rs.count 58 = m := by rw [← List.count_append, ← hdr, hm]
   have hsl1 := JeI (P := Tryz.prog) (k := .i64) Tryz.underlying9 (s := s) (lo := dn.length) (by omega)
   have htl1 : (s.cut dn.length s.n).toList = rs := by
    rw [S.toList_cut s (by omega) (Nat.le_refl _), hdr, List.drop_left, List.take_of_length_le (by omega)]
   obtain ⟨v, s3, hw1, hb3, hl3⟩ := Says.use (Jcj gl st' st.ctr st.ctr (JaS dn) (s.cut dn.length s.n) hbw (by rw [JoD]; omega))
   rw [htl1] at hb3
   have hfin : JaS dn ++ rs = JaS s.toList := by rw [hdr, Jd4, Jft (List.count_eq_zero.1 hcn)]
   rw [hfin] at hb3
   obtain ⟨v, s4, hw2, ⟨t, rfl, ht⟩, hl4⟩ := Says.use (Jhs gl s3 st.ctr st.ctr (JaS s.toList) hb3 (by have := JbH s.toList; rw [S.len] at this; omega) (by intro e; have := JbH s.toList; rw [e, S.len] at this; simp at this; omega))
   refine Ks_ (Ka_ (gs := [none, none, none, none]) fun K1 gK => ?_)
   simp (disch := omega) [hF, hsl1, hw1]
   refine gK _ _ (Ks_ (Ka_ (gs := [none, none]) fun K1 gK => ?_))
   simp (disch := omega) [hF, hw2]
   refine gK _ _ (Kq_ (gr _ _ ?_))
   simp [JM, Tryz.f90, hF]
   refine hR _ _ ?_
   exact ⟨⟨t, rfl, ht⟩, (hl3.trans hl4).keep hk (Nat.le_refl _)⟩
set_option maxRecDepth 100000 in
omit [NZ] [NO] in
theorem JjN (gl : Gl) (st : St) (s : S) (hs : s.n ≤ 300000) :
  Says Tryz.prog gl 70 [.str s, .str (S.ofList [58]), .str (S.ofList [92, 58])] st (fun v st' => (∃ t : S, v = .str t ∧ t.toList = JaS s.toList) ∧ Keep st st') := by
 refine QD (NY.no _ rfl rfl rfl _ _) Tryz.func70 rfl (by kernel_rfl) fun R hR K gr gn => ?_
 generalize hfr : JH gl [.str s, .str (S.ofList [58]), .str (S.ofList [92, 58])] = fr
 have hF : Fs gl [(0, .str s), (1, .str (S.ofList [58])), (2, .str (S.ofList [92, 58]))] fr := by subst hfr; simp [Fs]
 simp only [Fs] at hF
 clear hfr
 obtain ⟨v, s1, hc, ⟨t, rfl, ht⟩, hk⟩ := Says.use (JnX gl st s hs)
 refine Ks_ (Ka_ (gs := [none]) fun K1 gK => ?_)
 simp (disch := omega) []
 refine gK _ _ (Ks_ (Ka_ (gs := [none, none, none, none, none]) fun K1 gK => ?_))
 simp (disch := omega) [hF, hc]
 refine gK _ _ (Kq_ (gr _ _ ?_))
 simp [JM, Tryz.f70, hF]
 refine hR _ _ ?_
 exact ⟨⟨t, rfl, ht⟩, hk⟩
set_option maxRecDepth 100000 in
omit [NZ] in
theorem JkU (gl : Gl) (st : St) (s : S) (hs : s.n ≤ 100000) :
  Says Tryz.prog gl 48 [.str s] st (fun v st' => (∃ t : S, v = .str t ∧ t.toList = JaS (esc s.toList)) ∧ Keep st st') := by
 refine QD (NY.no _ rfl rfl rfl _ _) Tryz.func48 rfl (by kernel_rfl) fun R hR K gr gn => ?_
 generalize hfr : JH gl [.str s] = fr
 have hF : Fs gl [(0, .str s)] fr := by subst hfr; simp [Fs]
 simp only [Fs] at hF
 clear hfr
 obtain ⟨v, s1, hc, ⟨t, rfl, ht⟩, hk⟩ := Says.use (JfV gl st s hs)
 have htn : t.n ≤ 300000 := by
  have h1 := congrArg List.length ht
  have h2 := JaF s.toList
  rw [S.len] at h1
  rw [S.len] at h2
  omega
 obtain ⟨v, s2, hc2, ⟨u, rfl, hu⟩, hk2⟩ := Says.use (JjN gl s1 t htn)
 rw [ht] at hu
 refine Ks_ (Ka_ (gs := [none]) fun K1 gK => ?_)
 simp (disch := omega) []
 refine gK _ _ (Ks_ (Ka_ (gs := [none, none, none, none]) fun K1 gK => ?_))
 simp (disch := omega) [hF, hc, hc2]
 refine gK _ _ (Kq_ (gr _ _ ?_))
 simp [JM, Tryz.f48, hF]
 refine hR _ _ ?_
 exact ⟨⟨u, rfl, hu⟩, hk.trans hk2⟩
end Go.Vm
namespace Go.Vm
open Go Go.Proofs Go.Pa
attribute [local simp] OkS QL OkG Qf Qs OkD J3 Qe JL Je Jk vop Jq Jx ev evs toV Jj Fr.dsTo Fr.glTo Fr.toNone Jg Jh Ji J7 QI Jc JF Jt V.undef JX JQ Qg J8 J9 Qa Qh Qi JT Qb Qj Qc JR Qk JE Jw Jy JD JG Ju JS JW JK Ql
def JeB (p : List S) : List UInt8 := JaS (esc (Jb8 p))
def JfW (l : List Fw) (n : Int) : List UInt8 := JeB (QW l n.toNat)
theorem Jfu : ∀ {p : List S}, p.length ≤ 250 → (∀ s ∈ p, s.n ≤ 300) → (Jb8 p).length ≤ 75251
 | [], _, _ => by simp [Jb8]
 | a :: r, hp, hs => by
  have h1 := JfS (a :: r) hs
  show ((a :: r).flatMap fun s => 47 :: s.toList).length ≤ _
  simp only [List.length_cons] at hp h1
  omega
theorem Jmx {p : List S} (hp : p.length ≤ 250) (hs : ∀ s ∈ p, s.n ≤ 300) : (JeB p).length ≤ 302000 := by
 have h1 := Jfu hp hs
 have h2 := JaF (Jb8 p)
 have h3 := JiC (esc (Jb8 p))
 unfold JeB; omega
variable [Memo] [NY] [NZ] [NO]
set_option maxRecDepth 100000 in
omit [NZ] in
theorem JoB (gl : Gl) {aL : List V} (hh : Hits gl aL) (st : St) (x : V) (l : List Fw) (hx : Row Fw.cells x l) (hok : ∀ f ∈ l, f.ok) (hs : ∀ f ∈ l, f.small) (hl : l.length ≤ 60) (hm : MayF l) (n : Int) (h0 : 0 ≤ n) (h1 : n < (l.length : Int)) :
  Says Tryz.prog gl 49 [x, .int .i64 n] st (fun v st' => (∃ t : S, v = .str t ∧ t.toList = JfW l n ∧ t.n ≤ 302000) ∧ Keep st st') := by
 refine QD (NY.no _ rfl rfl rfl _ _) Tryz.func49 rfl (by kernel_rfl) fun R hR K gr gn => ?_
 generalize hfr : JH gl [x, .int .i64 n] = fr
 have hF : Fs gl [(0, x), (1, .int .i64 n)] fr := by subst hfr; simp [Fs]
 simp only [Fs] at hF
 clear hfr
 have hn : ((n.toNat : Nat) : Int) = n := Int.toNat_of_nonneg h0
 have hlt : n.toNat < l.length := by omega
 obtain ⟨v, s1, hc, ⟨y, rfl, hy⟩, hk1⟩ := Says.use (JnU gl hh st x l n.toNat hlt hx hok hs hl (JcW.2 hm))
 rw [hn] at hc
 have hpl := Jf9 hm n.toNat hlt
 have hps := JcS hm hs n.toNat hlt
 obtain ⟨v, s2, hc2, ⟨t, rfl, ht⟩, hk2⟩ := Says.use (Jgs gl s1 y (QW l n.toNat) hy.vw (by omega) hps)
 have hpn := Jfu (p := QW l n.toNat) (by omega) hps
 obtain ⟨v, s3, hc3, ⟨u, rfl, hu⟩, hk3⟩ := Says.use (JkU gl s2 t (by rw [← S.len, ht]; omega))
 rw [ht] at hu
 refine Ks_ (Ka_ (gs := [none]) fun K1 gK => ?_)
 simp (disch := omega) []
 refine gK _ _ (Ks_ (Ka_ (gs := [none, none, none, none, none, none, none, none]) fun K1 gK => ?_))
 simp (disch := omega) [hF, hc]
 refine gK _ _ (Ks_ (Ka_ (gs := [none, none, none, none]) fun K1 gK => ?_))
 simp (disch := omega) [hF, hc2, hc3]
 refine gK _ _ (Kq_ (gr _ _ ?_))
 simp [JM, Tryz.f49, hF]
 refine hR _ _ ?_
 exact ⟨⟨u, rfl, hu, by rw [← S.len, hu]; exact Jmx (by omega) hps⟩, hk1.trans (hk2.trans hk3)⟩
end Go.Vm
namespace Go.Vm
open Go Go.Proofs Go.Pa
attribute [local simp] OkS QL OkG Qf Qs OkD J3 Qe JL Je Jk vop Jq Jx ev evs toV Jj Fr.dsTo Fr.glTo Fr.toNone Jg Jh Ji J7 QI Jc JF Jt V.undef JX JQ Qg J8 J9 Qa Qh Qi JT Qb Qj Qc JR Qk JE Jw Jy JD JG Ju JS JW JK Ql
def JjO (l : List Fw) (base : Int) : List UInt8 := cond (decide (0 ≤ base)) ([32, 111, 118, 101, 114, 32] ++ JfW l base) []
def Jct (l : List Fw) (ref : Int) (kind : Nat) (text : S) (base : Int) : List UInt8 :=
 cond (decide (0 ≤ ref)) ([97, 115, 32] ++ JfW l ref) <| cond (decide (kind = 0)) [97, 98, 115, 101, 110, 116] <| cond (decide (kind = 1)) ([102, 105, 108, 101, 32] ++ esc text.toList) <|
 cond (decide (kind = 3)) ([108, 105, 110, 107, 32] ++ esc text.toList) ([100, 105, 114] ++ JjO l base)
mutual
def J6 (l : List Fw) : Tw → List S → List (List UInt8)
 | .mk ref kind text base _ names _ kids, p => (JeB p ++ [58, 32] ++ Jct l ref kind text base) :: cond (decide (0 ≤ ref)) [] (Q7 l kids names p)
def Q7 (l : List Fw) : List Tw → List S → List S → List (List UInt8)
 | t :: ts, n :: ns, p => J6 l t (p ++ [n]) ++ Q7 l ts ns p
 | _, _, _ => []
end
theorem Jbf (l : List Fw) (ns p : List S) : Q7 l [] ns p = [] := by cases ns <;> rfl
mutual
theorem JdJ (l : List Fw) : ∀ (t : Tw) (p : List S), (J6 l t p).length ≤ t.nodes
 | .mk ref kind text base nv names kv kids, p => by
  have := Je4 l kids names p
  simp only [J6, Tw.nodes, List.length_cons]
  cases decide (0 ≤ ref) <;> simp <;> omega
theorem Je4 (l : List Fw) : ∀ (ts : List Tw) (ns p : List S), (Q7 l ts ns p).length ≤ QC ts
 | [], ns, p => by rw [Jbf]; simp
 | t :: ts, [], p => by simp [Q7]
 | t :: ts, n :: ns, p => by
  have h1 := JdJ l t (p ++ [n])
  have h2 := Je4 l ts ns p
  simp only [Q7, List.length_append, QC]; omega
end
theorem Jha {l : List Fw} {ref : Int} {kind : Nat} {text : S} {base : Int} {nv kv : V} {names : List S} {kids : List Tw} (h : Jae l (.mk ref kind text base nv names kv kids) = true) :
  (0 ≤ ref ∧ ref < (l.length : Int)) ∨ (ref < 0 ∧ (((kind = 0 ∨ kind = 1 ∨ kind = 3) ∧ kids = [] ∧ names = []) ∨ (kind = 2 ∧ names.length = kids.length ∧ (0 ≤ base → base < (l.length : Int)) ∧ ∀ t ∈ kids, Jae l t = true))) := by
 simp only [Jae] at h
 by_cases hr : ref = -1
 ·right
  refine ⟨by omega, ?_⟩
  simp only [hr, decide_true, cond_true] at h
  by_cases hk : kind = 2
  ·right
   simp only [hk, decide_true, cond_true, Bool.and_eq_true, decide_eq_true_eq, Bool.or_eq_true] at h
   obtain ⟨_, h1, h2, _, h3⟩ := h
   refine ⟨hk, h1, fun hb => ?_, Jb6.1 h3⟩
   rcases h2 with h2 | h2
   ·omega
   ·simp only [Je0, Bool.and_eq_true, decide_eq_true_eq] at h2
    exact h2.2.1
  ·left
   simp only [hk, decide_false, cond_false] at h
   by_cases h0 : kind = 0
   ·simp only [h0, decide_true, cond_true, Bool.and_eq_true, decide_eq_true_eq, List.length_eq_zero_iff] at h
    exact ⟨.inl h0, h.2.2.2, h.2.2.1⟩
   ·simp only [h0, decide_false, cond_false, Bool.and_eq_true, decide_eq_true_eq, List.length_eq_zero_iff, JfK, Bool.or_eq_true] at h
    exact ⟨.inr h.2.2.2.1, h.2.2.1, h.2.1⟩
 ·left
  simp only [hr, decide_false, cond_false, Bool.and_eq_true, decide_eq_true_eq] at h
  exact ⟨h.1, h.2.1⟩
theorem JjP {p : List S} {n : S} (hp : ∀ s ∈ p, s.n ≤ 300) (hn : n.n ≤ 300) : ∀ s ∈ p ++ [n], s.n ≤ 300 := fun s hs => by
 rcases List.mem_append.1 hs with h | h
 ·exact hp s h
 ·rw [List.mem_singleton.1 h]; exact hn
variable [Memo] [NY] [NZ] [NO]
end Go.Vm
